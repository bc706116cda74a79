/- What is read, made again. -/
import Derived.Test.YtkgcjelipllpdaaWorks
namespace Go.Proofs.Ytkgcjelipllpdaa
open Go.RowKit

theorem be4_num (l : List UInt8) (h : l.length = 4) : be4 (num l) = l := by
  obtain ⟨b0, b1, b2, b3, rfl⟩ : ∃ b0 b1 b2 b3, l = [b0, b1, b2, b3] := by
    match l, h with
    | [b0, b1, b2, b3], _ => exact ⟨_, _, _, _, rfl⟩
  have hb0 := b8lt b0
  have hb1 := b8lt b1
  have hb2 := b8lt b2
  have hb3 := b8lt b3
  have hn : num [b0, b1, b2, b3] = b0.toNat * 16777216 + b1.toNat * 65536 + b2.toNat * 256 + b3.toNat * 1 := by
    show ((((0 * 256 + b0.toNat) * 256 + b1.toNat) * 256 + b2.toNat) * 256 + b3.toNat) = _
    omega
  unfold be4 byt64
  rw [hn]
  have q3 : (b0.toNat * 16777216 + b1.toNat * 65536 + b2.toNat * 256 + b3.toNat * 1) / 256 ^ 3 = b0.toNat * 1 := by
    simp only [Nat.reducePow]
    omega
  have q2 : (b0.toNat * 16777216 + b1.toNat * 65536 + b2.toNat * 256 + b3.toNat * 1) / 256 ^ 2 = b0.toNat * 256 + b1.toNat * 1 := by
    simp only [Nat.reducePow]
    omega
  have q1 : (b0.toNat * 16777216 + b1.toNat * 65536 + b2.toNat * 256 + b3.toNat * 1) / 256 ^ 1 = b0.toNat * 65536 + b1.toNat * 256 + b2.toNat * 1 := by
    simp only [Nat.reducePow]
    omega
  have q0 : (b0.toNat * 16777216 + b1.toNat * 65536 + b2.toNat * 256 + b3.toNat * 1) / 256 ^ 0 = b0.toNat * 16777216 + b1.toNat * 65536 + b2.toNat * 256 + b3.toNat * 1 := by
    simp only [Nat.reducePow]
    omega
  rw [q3, q2, q1, q0]
  have r0 : UInt8.ofNat (b0.toNat * 1) = b0 := by
    apply UInt8.toNat_inj.1
    rw [UInt8.toNat_ofNat']
    simp only [Nat.reducePow]
    omega
  have r1 : UInt8.ofNat (b0.toNat * 256 + b1.toNat * 1) = b1 := by
    apply UInt8.toNat_inj.1
    rw [UInt8.toNat_ofNat']
    simp only [Nat.reducePow]
    omega
  have r2 : UInt8.ofNat (b0.toNat * 65536 + b1.toNat * 256 + b2.toNat * 1) = b2 := by
    apply UInt8.toNat_inj.1
    rw [UInt8.toNat_ofNat']
    simp only [Nat.reducePow]
    omega
  have r3 : UInt8.ofNat (b0.toNat * 16777216 + b1.toNat * 65536 + b2.toNat * 256 + b3.toNat * 1) = b3 := by
    apply UInt8.toNat_inj.1
    rw [UInt8.toNat_ofNat']
    simp only [Nat.reducePow]
    omega
  rw [r0, r1, r2, r3]

theorem be8_num (l : List UInt8) (h : l.length = 8) : be8 (num l) = l := by
  obtain ⟨b0, b1, b2, b3, b4, b5, b6, b7, rfl⟩ : ∃ b0 b1 b2 b3 b4 b5 b6 b7, l = [b0, b1, b2, b3, b4, b5, b6, b7] := by
    match l, h with
    | [b0, b1, b2, b3, b4, b5, b6, b7], _ => exact ⟨_, _, _, _, _, _, _, _, rfl⟩
  have hb0 := b8lt b0
  have hb1 := b8lt b1
  have hb2 := b8lt b2
  have hb3 := b8lt b3
  have hb4 := b8lt b4
  have hb5 := b8lt b5
  have hb6 := b8lt b6
  have hb7 := b8lt b7
  have hn : num [b0, b1, b2, b3, b4, b5, b6, b7] = b0.toNat * 72057594037927936 + b1.toNat * 281474976710656 + b2.toNat * 1099511627776 + b3.toNat * 4294967296 + b4.toNat * 16777216 + b5.toNat * 65536 + b6.toNat * 256 + b7.toNat * 1 := by
    show ((((((((0 * 256 + b0.toNat) * 256 + b1.toNat) * 256 + b2.toNat) * 256 + b3.toNat) * 256 + b4.toNat) * 256 + b5.toNat) * 256 + b6.toNat) * 256 + b7.toNat) = _
    omega
  unfold be8 byt64
  rw [hn]
  have q7 : (b0.toNat * 72057594037927936 + b1.toNat * 281474976710656 + b2.toNat * 1099511627776 + b3.toNat * 4294967296 + b4.toNat * 16777216 + b5.toNat * 65536 + b6.toNat * 256 + b7.toNat * 1) / 256 ^ 7 = b0.toNat * 1 := by
    simp only [Nat.reducePow]
    omega
  have q6 : (b0.toNat * 72057594037927936 + b1.toNat * 281474976710656 + b2.toNat * 1099511627776 + b3.toNat * 4294967296 + b4.toNat * 16777216 + b5.toNat * 65536 + b6.toNat * 256 + b7.toNat * 1) / 256 ^ 6 = b0.toNat * 256 + b1.toNat * 1 := by
    simp only [Nat.reducePow]
    omega
  have q5 : (b0.toNat * 72057594037927936 + b1.toNat * 281474976710656 + b2.toNat * 1099511627776 + b3.toNat * 4294967296 + b4.toNat * 16777216 + b5.toNat * 65536 + b6.toNat * 256 + b7.toNat * 1) / 256 ^ 5 = b0.toNat * 65536 + b1.toNat * 256 + b2.toNat * 1 := by
    simp only [Nat.reducePow]
    omega
  have q4 : (b0.toNat * 72057594037927936 + b1.toNat * 281474976710656 + b2.toNat * 1099511627776 + b3.toNat * 4294967296 + b4.toNat * 16777216 + b5.toNat * 65536 + b6.toNat * 256 + b7.toNat * 1) / 256 ^ 4 = b0.toNat * 16777216 + b1.toNat * 65536 + b2.toNat * 256 + b3.toNat * 1 := by
    simp only [Nat.reducePow]
    omega
  have q3 : (b0.toNat * 72057594037927936 + b1.toNat * 281474976710656 + b2.toNat * 1099511627776 + b3.toNat * 4294967296 + b4.toNat * 16777216 + b5.toNat * 65536 + b6.toNat * 256 + b7.toNat * 1) / 256 ^ 3 = b0.toNat * 4294967296 + b1.toNat * 16777216 + b2.toNat * 65536 + b3.toNat * 256 + b4.toNat * 1 := by
    simp only [Nat.reducePow]
    omega
  have q2 : (b0.toNat * 72057594037927936 + b1.toNat * 281474976710656 + b2.toNat * 1099511627776 + b3.toNat * 4294967296 + b4.toNat * 16777216 + b5.toNat * 65536 + b6.toNat * 256 + b7.toNat * 1) / 256 ^ 2 = b0.toNat * 1099511627776 + b1.toNat * 4294967296 + b2.toNat * 16777216 + b3.toNat * 65536 + b4.toNat * 256 + b5.toNat * 1 := by
    simp only [Nat.reducePow]
    omega
  have q1 : (b0.toNat * 72057594037927936 + b1.toNat * 281474976710656 + b2.toNat * 1099511627776 + b3.toNat * 4294967296 + b4.toNat * 16777216 + b5.toNat * 65536 + b6.toNat * 256 + b7.toNat * 1) / 256 ^ 1 = b0.toNat * 281474976710656 + b1.toNat * 1099511627776 + b2.toNat * 4294967296 + b3.toNat * 16777216 + b4.toNat * 65536 + b5.toNat * 256 + b6.toNat * 1 := by
    simp only [Nat.reducePow]
    omega
  have q0 : (b0.toNat * 72057594037927936 + b1.toNat * 281474976710656 + b2.toNat * 1099511627776 + b3.toNat * 4294967296 + b4.toNat * 16777216 + b5.toNat * 65536 + b6.toNat * 256 + b7.toNat * 1) / 256 ^ 0 = b0.toNat * 72057594037927936 + b1.toNat * 281474976710656 + b2.toNat * 1099511627776 + b3.toNat * 4294967296 + b4.toNat * 16777216 + b5.toNat * 65536 + b6.toNat * 256 + b7.toNat * 1 := by
    simp only [Nat.reducePow]
    omega
  rw [q7, q6, q5, q4, q3, q2, q1, q0]
  have r0 : UInt8.ofNat (b0.toNat * 1) = b0 := by
    apply UInt8.toNat_inj.1
    rw [UInt8.toNat_ofNat']
    simp only [Nat.reducePow]
    omega
  have r1 : UInt8.ofNat (b0.toNat * 256 + b1.toNat * 1) = b1 := by
    apply UInt8.toNat_inj.1
    rw [UInt8.toNat_ofNat']
    simp only [Nat.reducePow]
    omega
  have r2 : UInt8.ofNat (b0.toNat * 65536 + b1.toNat * 256 + b2.toNat * 1) = b2 := by
    apply UInt8.toNat_inj.1
    rw [UInt8.toNat_ofNat']
    simp only [Nat.reducePow]
    omega
  have r3 : UInt8.ofNat (b0.toNat * 16777216 + b1.toNat * 65536 + b2.toNat * 256 + b3.toNat * 1) = b3 := by
    apply UInt8.toNat_inj.1
    rw [UInt8.toNat_ofNat']
    simp only [Nat.reducePow]
    omega
  have r4 : UInt8.ofNat (b0.toNat * 4294967296 + b1.toNat * 16777216 + b2.toNat * 65536 + b3.toNat * 256 + b4.toNat * 1) = b4 := by
    apply UInt8.toNat_inj.1
    rw [UInt8.toNat_ofNat']
    simp only [Nat.reducePow]
    omega
  have r5 : UInt8.ofNat (b0.toNat * 1099511627776 + b1.toNat * 4294967296 + b2.toNat * 16777216 + b3.toNat * 65536 + b4.toNat * 256 + b5.toNat * 1) = b5 := by
    apply UInt8.toNat_inj.1
    rw [UInt8.toNat_ofNat']
    simp only [Nat.reducePow]
    omega
  have r6 : UInt8.ofNat (b0.toNat * 281474976710656 + b1.toNat * 1099511627776 + b2.toNat * 4294967296 + b3.toNat * 16777216 + b4.toNat * 65536 + b5.toNat * 256 + b6.toNat * 1) = b6 := by
    apply UInt8.toNat_inj.1
    rw [UInt8.toNat_ofNat']
    simp only [Nat.reducePow]
    omega
  have r7 : UInt8.ofNat (b0.toNat * 72057594037927936 + b1.toNat * 281474976710656 + b2.toNat * 1099511627776 + b3.toNat * 4294967296 + b4.toNat * 16777216 + b5.toNat * 65536 + b6.toNat * 256 + b7.toNat * 1) = b7 := by
    apply UInt8.toNat_inj.1
    rw [UInt8.toNat_ofNat']
    simp only [Nat.reducePow]
    omega
  rw [r0, r1, r2, r3, r4, r5, r6, r7]

theorem rev_rev (c : BitVec 32) : rev (rev c) = c := by
  apply BitVec.eq_of_toNat_eq
  have h := b32lt c
  obtain ⟨a0, a1, a2, a3, h0, h1, h2, h3, hn⟩ : ∃ a0 a1 a2 a3, a0 < 256 ∧ a1 < 256 ∧ a2 < 256 ∧ a3 < 256 ∧ c.toNat = a0 + 256 * a1 + 65536 * a2 + 16777216 * a3 :=
    ⟨c.toNat % 256, c.toNat / 256 % 256, c.toNat / 65536 % 256, c.toNat / 16777216, by omega, by omega, by omega, by omega, by omega⟩
  have hr : (rev c).toNat = a0 * 16777216 + a1 * 65536 + a2 * 256 + a3 := by
    rw [rev_nat, hn, show (a0 + 256 * a1 + 65536 * a2 + 16777216 * a3) % 256 = a0 by omega, show (a0 + 256 * a1 + 65536 * a2 + 16777216 * a3) / 256 % 256 = a1 by omega,
      show (a0 + 256 * a1 + 65536 * a2 + 16777216 * a3) / 65536 % 256 = a2 by omega, show (a0 + 256 * a1 + 65536 * a2 + 16777216 * a3) / 16777216 = a3 by omega]
  rw [rev_nat, hr, hn, show (a0 * 16777216 + a1 * 65536 + a2 * 256 + a3) % 256 = a3 by omega, show (a0 * 16777216 + a1 * 65536 + a2 * 256 + a3) / 256 % 256 = a2 by rw [show (a0 * 16777216 + a1 * 65536 + a2 * 256 + a3) / 256 = a0 * 65536 + a1 * 256 + a2 by omega]; omega,
    show (a0 * 16777216 + a1 * 65536 + a2 * 256 + a3) / 65536 % 256 = a1 by rw [show (a0 * 16777216 + a1 * 65536 + a2 * 256 + a3) / 65536 = a0 * 256 + a1 by omega]; omega, show (a0 * 16777216 + a1 * 65536 + a2 * 256 + a3) / 16777216 = a0 by omega]
  omega
theorem four_low (l : List UInt8) (h : l.length = 4) : four (lowN l) = l := by
  have h1 := num_lt l
  rw [h] at h1
  unfold lowN
  rw [← be4_rev, rev_rev, BitVec.toNat_ofNat, Nat.mod_eq_of_lt (by omega), be4_num l h]
theorem sl_length (l : List UInt8) (a n : Nat) (h : a + n ≤ l.length) : (sl l a n).length = n := by unfold sl; rw [List.length_take, List.length_drop]; omega
theorem sl_append (l : List UInt8) (a n m : Nat) : sl l a n ++ sl l (a + n) m = sl l a (n + m) := by
  unfold sl
  rw [List.take_add, List.drop_drop]
theorem frame_back (l : List UInt8) (a : Nat) (h : fE l a = 0) : frm (fQ l a) (sl l (a + 16) (fN l a)) = sl l a (16 + fN l a) ∧ (sl l (a + 16) (fN l a)).length = fN l a := by
  obtain ⟨g1, g2, g3, g4⟩ := fE_zero h
  have g3' : a + 16 + fN l a ≤ l.length := g3
  have hl := sl_length l (a + 16) (fN l a) (by omega)
  refine ⟨?_, hl⟩
  unfold frm head
  rw [hl]
  have e4 : be4 (fN l a) = sl l a 4 := be4_num _ (sl_length _ _ _ (by omega))
  have e8 : be8 (fQ l a) = sl l (a + 4) 8 := be8_num _ (sl_length _ _ _ (by omega))
  rw [e4, e8, sl_append, show 4 + 8 = 12 from rfl]
  unfold fSum at g4
  rw [g4, four_low _ (sl_length _ _ _ (by omega)), sl_append, show 12 + 4 = 16 from rfl, sl_append]

end Go.Proofs.Ytkgcjelipllpdaa
