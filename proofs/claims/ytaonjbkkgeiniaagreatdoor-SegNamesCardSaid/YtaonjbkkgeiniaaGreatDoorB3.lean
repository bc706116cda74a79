import Derived.Test.YtaonjbkkgeiniaaGreatDoorB2
import Derived.WalkKit
import Derived.ChangeShapes
import Derived.SliceStrings
import Derived.SizedLaws
import Derived.Test.YtaonjbkkgeiniaaGreatDoorB1
/- What is read, made again. -/
namespace Go.Proofs.YtaonjbkkgeiniaaGreatDoor
open Go.RowKit

theorem be4_num (l : List UInt8) (h : l.length = 4) : be4 (num l) = l := by
  obtain ⟨b0, b1, b2, b3, rfl⟩ : ∃ b0 b1 b2 b3, l = [b0, b1, b2, b3] := by
    match l, h with
    | [b0, b1, b2, b3], _ => exact ⟨_, _, _, _, rfl⟩
  have hb0 := b8lt b0
  have hb1 := b8lt b1
  have hb2 := b8lt b2
  have hb3 := b8lt b3
  have hn : num [b0, b1, b2, b3] = b0.toNat * 16777216 + b1.toNat * 65536 + b2.toNat * 256 + b3.toNat * 1 := by
    show ((((0 * 256 + b0.toNat) * 256 + b1.toNat) * 256 + b2.toNat) * 256 + b3.toNat) = _
    omega
  unfold be4 byt64
  rw [hn]
  have q3 : (b0.toNat * 16777216 + b1.toNat * 65536 + b2.toNat * 256 + b3.toNat * 1) / 256 ^ 3 = b0.toNat * 1 := by
    simp only [Nat.reducePow]
    omega
  have q2 : (b0.toNat * 16777216 + b1.toNat * 65536 + b2.toNat * 256 + b3.toNat * 1) / 256 ^ 2 = b0.toNat * 256 + b1.toNat * 1 := by
    simp only [Nat.reducePow]
    omega
  have q1 : (b0.toNat * 16777216 + b1.toNat * 65536 + b2.toNat * 256 + b3.toNat * 1) / 256 ^ 1 = b0.toNat * 65536 + b1.toNat * 256 + b2.toNat * 1 := by
    simp only [Nat.reducePow]
    omega
  have q0 : (b0.toNat * 16777216 + b1.toNat * 65536 + b2.toNat * 256 + b3.toNat * 1) / 256 ^ 0 = b0.toNat * 16777216 + b1.toNat * 65536 + b2.toNat * 256 + b3.toNat * 1 := by
    simp only [Nat.reducePow]
    omega
  rw [q3, q2, q1, q0]
  have r0 : UInt8.ofNat (b0.toNat * 1) = b0 := by
    apply UInt8.toNat_inj.1
    rw [UInt8.toNat_ofNat']
    simp only [Nat.reducePow]
    omega
  have r1 : UInt8.ofNat (b0.toNat * 256 + b1.toNat * 1) = b1 := by
    apply UInt8.toNat_inj.1
    rw [UInt8.toNat_ofNat']
    simp only [Nat.reducePow]
    omega
  have r2 : UInt8.ofNat (b0.toNat * 65536 + b1.toNat * 256 + b2.toNat * 1) = b2 := by
    apply UInt8.toNat_inj.1
    rw [UInt8.toNat_ofNat']
    simp only [Nat.reducePow]
    omega
  have r3 : UInt8.ofNat (b0.toNat * 16777216 + b1.toNat * 65536 + b2.toNat * 256 + b3.toNat * 1) = b3 := by
    apply UInt8.toNat_inj.1
    rw [UInt8.toNat_ofNat']
    simp only [Nat.reducePow]
    omega
  rw [r0, r1, r2, r3]

theorem be8_num (l : List UInt8) (h : l.length = 8) : be8 (num l) = l := by
  obtain ⟨b0, b1, b2, b3, b4, b5, b6, b7, rfl⟩ : ∃ b0 b1 b2 b3 b4 b5 b6 b7, l = [b0, b1, b2, b3, b4, b5, b6, b7] := by
    match l, h with
    | [b0, b1, b2, b3, b4, b5, b6, b7], _ => exact ⟨_, _, _, _, _, _, _, _, rfl⟩
  have hb0 := b8lt b0
  have hb1 := b8lt b1
  have hb2 := b8lt b2
  have hb3 := b8lt b3
  have hb4 := b8lt b4
  have hb5 := b8lt b5
  have hb6 := b8lt b6
  have hb7 := b8lt b7
  have hn : num [b0, b1, b2, b3, b4, b5, b6, b7] = b0.toNat * 72057594037927936 + b1.toNat * 281474976710656 + b2.toNat * 1099511627776 + b3.toNat * 4294967296 + b4.toNat * 16777216 + b5.toNat * 65536 + b6.toNat * 256 + b7.toNat * 1 := by
    show ((((((((0 * 256 + b0.toNat) * 256 + b1.toNat) * 256 + b2.toNat) * 256 + b3.toNat) * 256 + b4.toNat) * 256 + b5.toNat) * 256 + b6.toNat) * 256 + b7.toNat) = _
    omega
  unfold be8 byt64
  rw [hn]
  have q7 : (b0.toNat * 72057594037927936 + b1.toNat * 281474976710656 + b2.toNat * 1099511627776 + b3.toNat * 4294967296 + b4.toNat * 16777216 + b5.toNat * 65536 + b6.toNat * 256 + b7.toNat * 1) / 256 ^ 7 = b0.toNat * 1 := by
    simp only [Nat.reducePow]
    omega
  have q6 : (b0.toNat * 72057594037927936 + b1.toNat * 281474976710656 + b2.toNat * 1099511627776 + b3.toNat * 4294967296 + b4.toNat * 16777216 + b5.toNat * 65536 + b6.toNat * 256 + b7.toNat * 1) / 256 ^ 6 = b0.toNat * 256 + b1.toNat * 1 := by
    simp only [Nat.reducePow]
    omega
  have q5 : (b0.toNat * 72057594037927936 + b1.toNat * 281474976710656 + b2.toNat * 1099511627776 + b3.toNat * 4294967296 + b4.toNat * 16777216 + b5.toNat * 65536 + b6.toNat * 256 + b7.toNat * 1) / 256 ^ 5 = b0.toNat * 65536 + b1.toNat * 256 + b2.toNat * 1 := by
    simp only [Nat.reducePow]
    omega
  have q4 : (b0.toNat * 72057594037927936 + b1.toNat * 281474976710656 + b2.toNat * 1099511627776 + b3.toNat * 4294967296 + b4.toNat * 16777216 + b5.toNat * 65536 + b6.toNat * 256 + b7.toNat * 1) / 256 ^ 4 = b0.toNat * 16777216 + b1.toNat * 65536 + b2.toNat * 256 + b3.toNat * 1 := by
    simp only [Nat.reducePow]
    omega
  have q3 : (b0.toNat * 72057594037927936 + b1.toNat * 281474976710656 + b2.toNat * 1099511627776 + b3.toNat * 4294967296 + b4.toNat * 16777216 + b5.toNat * 65536 + b6.toNat * 256 + b7.toNat * 1) / 256 ^ 3 = b0.toNat * 4294967296 + b1.toNat * 16777216 + b2.toNat * 65536 + b3.toNat * 256 + b4.toNat * 1 := by
    simp only [Nat.reducePow]
    omega
  have q2 : (b0.toNat * 72057594037927936 + b1.toNat * 281474976710656 + b2.toNat * 1099511627776 + b3.toNat * 4294967296 + b4.toNat * 16777216 + b5.toNat * 65536 + b6.toNat * 256 + b7.toNat * 1) / 256 ^ 2 = b0.toNat * 1099511627776 + b1.toNat * 4294967296 + b2.toNat * 16777216 + b3.toNat * 65536 + b4.toNat * 256 + b5.toNat * 1 := by
    simp only [Nat.reducePow]
    omega
  have q1 : (b0.toNat * 72057594037927936 + b1.toNat * 281474976710656 + b2.toNat * 1099511627776 + b3.toNat * 4294967296 + b4.toNat * 16777216 + b5.toNat * 65536 + b6.toNat * 256 + b7.toNat * 1) / 256 ^ 1 = b0.toNat * 281474976710656 + b1.toNat * 1099511627776 + b2.toNat * 4294967296 + b3.toNat * 16777216 + b4.toNat * 65536 + b5.toNat * 256 + b6.toNat * 1 := by
    simp only [Nat.reducePow]
    omega
  have q0 : (b0.toNat * 72057594037927936 + b1.toNat * 281474976710656 + b2.toNat * 1099511627776 + b3.toNat * 4294967296 + b4.toNat * 16777216 + b5.toNat * 65536 + b6.toNat * 256 + b7.toNat * 1) / 256 ^ 0 = b0.toNat * 72057594037927936 + b1.toNat * 281474976710656 + b2.toNat * 1099511627776 + b3.toNat * 4294967296 + b4.toNat * 16777216 + b5.toNat * 65536 + b6.toNat * 256 + b7.toNat * 1 := by
    simp only [Nat.reducePow]
    omega
  rw [q7, q6, q5, q4, q3, q2, q1, q0]
  have r0 : UInt8.ofNat (b0.toNat * 1) = b0 := by
    apply UInt8.toNat_inj.1
    rw [UInt8.toNat_ofNat']
    simp only [Nat.reducePow]
    omega
  have r1 : UInt8.ofNat (b0.toNat * 256 + b1.toNat * 1) = b1 := by
    apply UInt8.toNat_inj.1
    rw [UInt8.toNat_ofNat']
    simp only [Nat.reducePow]
    omega
  have r2 : UInt8.ofNat (b0.toNat * 65536 + b1.toNat * 256 + b2.toNat * 1) = b2 := by
    apply UInt8.toNat_inj.1
    rw [UInt8.toNat_ofNat']
    simp only [Nat.reducePow]
    omega
  have r3 : UInt8.ofNat (b0.toNat * 16777216 + b1.toNat * 65536 + b2.toNat * 256 + b3.toNat * 1) = b3 := by
    apply UInt8.toNat_inj.1
    rw [UInt8.toNat_ofNat']
    simp only [Nat.reducePow]
    omega
  have r4 : UInt8.ofNat (b0.toNat * 4294967296 + b1.toNat * 16777216 + b2.toNat * 65536 + b3.toNat * 256 + b4.toNat * 1) = b4 := by
    apply UInt8.toNat_inj.1
    rw [UInt8.toNat_ofNat']
    simp only [Nat.reducePow]
    omega
  have r5 : UInt8.ofNat (b0.toNat * 1099511627776 + b1.toNat * 4294967296 + b2.toNat * 16777216 + b3.toNat * 65536 + b4.toNat * 256 + b5.toNat * 1) = b5 := by
    apply UInt8.toNat_inj.1
    rw [UInt8.toNat_ofNat']
    simp only [Nat.reducePow]
    omega
  have r6 : UInt8.ofNat (b0.toNat * 281474976710656 + b1.toNat * 1099511627776 + b2.toNat * 4294967296 + b3.toNat * 16777216 + b4.toNat * 65536 + b5.toNat * 256 + b6.toNat * 1) = b6 := by
    apply UInt8.toNat_inj.1
    rw [UInt8.toNat_ofNat']
    simp only [Nat.reducePow]
    omega
  have r7 : UInt8.ofNat (b0.toNat * 72057594037927936 + b1.toNat * 281474976710656 + b2.toNat * 1099511627776 + b3.toNat * 4294967296 + b4.toNat * 16777216 + b5.toNat * 65536 + b6.toNat * 256 + b7.toNat * 1) = b7 := by
    apply UInt8.toNat_inj.1
    rw [UInt8.toNat_ofNat']
    simp only [Nat.reducePow]
    omega
  rw [r0, r1, r2, r3, r4, r5, r6, r7]

theorem rev_rev (c : BitVec 32) : rev (rev c) = c := by
  apply BitVec.eq_of_toNat_eq
  have h := b32lt c
  obtain ⟨a0, a1, a2, a3, h0, h1, h2, h3, hn⟩ : ∃ a0 a1 a2 a3, a0 < 256 ∧ a1 < 256 ∧ a2 < 256 ∧ a3 < 256 ∧ c.toNat = a0 + 256 * a1 + 65536 * a2 + 16777216 * a3 :=
    ⟨c.toNat % 256, c.toNat / 256 % 256, c.toNat / 65536 % 256, c.toNat / 16777216, by omega, by omega, by omega, by omega, by omega⟩
  have hr : (rev c).toNat = a0 * 16777216 + a1 * 65536 + a2 * 256 + a3 := by
    rw [rev_nat, hn, show (a0 + 256 * a1 + 65536 * a2 + 16777216 * a3) % 256 = a0 by omega, show (a0 + 256 * a1 + 65536 * a2 + 16777216 * a3) / 256 % 256 = a1 by omega,
      show (a0 + 256 * a1 + 65536 * a2 + 16777216 * a3) / 65536 % 256 = a2 by omega, show (a0 + 256 * a1 + 65536 * a2 + 16777216 * a3) / 16777216 = a3 by omega]
  rw [rev_nat, hr, hn, show (a0 * 16777216 + a1 * 65536 + a2 * 256 + a3) % 256 = a3 by omega, show (a0 * 16777216 + a1 * 65536 + a2 * 256 + a3) / 256 % 256 = a2 by rw [show (a0 * 16777216 + a1 * 65536 + a2 * 256 + a3) / 256 = a0 * 65536 + a1 * 256 + a2 by omega]; omega,
    show (a0 * 16777216 + a1 * 65536 + a2 * 256 + a3) / 65536 % 256 = a1 by rw [show (a0 * 16777216 + a1 * 65536 + a2 * 256 + a3) / 65536 = a0 * 256 + a1 by omega]; omega, show (a0 * 16777216 + a1 * 65536 + a2 * 256 + a3) / 16777216 = a0 by omega]
  omega
theorem four_low (l : List UInt8) (h : l.length = 4) : four (lowN l) = l := by
  have h1 := num_lt l
  rw [h] at h1
  unfold lowN
  rw [← be4_rev, rev_rev, BitVec.toNat_ofNat, Nat.mod_eq_of_lt (by omega), be4_num l h]
theorem sl_length (l : List UInt8) (a n : Nat) (h : a + n ≤ l.length) : (sl l a n).length = n := by unfold sl; rw [List.length_take, List.length_drop]; omega
theorem sl_append (l : List UInt8) (a n m : Nat) : sl l a n ++ sl l (a + n) m = sl l a (n + m) := by
  unfold sl
  rw [List.take_add, List.drop_drop]
theorem frame_back (l : List UInt8) (a : Nat) (h : fE l a = 0) : frm (fQ l a) (sl l (a + 16) (fN l a)) = sl l a (16 + fN l a) ∧ (sl l (a + 16) (fN l a)).length = fN l a := by
  obtain ⟨g1, g2, g3, g4⟩ := fE_zero h
  have g3' : a + 16 + fN l a ≤ l.length := g3
  have hl := sl_length l (a + 16) (fN l a) (by omega)
  refine ⟨?_, hl⟩
  unfold frm head
  rw [hl]
  have e4 : be4 (fN l a) = sl l a 4 := be4_num _ (sl_length _ _ _ (by omega))
  have e8 : be8 (fQ l a) = sl l (a + 4) 8 := be8_num _ (sl_length _ _ _ (by omega))
  rw [e4, e8, sl_append, show 4 + 8 = 12 from rfl]
  unfold fSum at g4
  rw [g4, four_low _ (sl_length _ _ _ (by omega)), sl_append, show 12 + 4 = 16 from rfl, sl_append]

end Go.Proofs.YtaonjbkkgeiniaaGreatDoor

/- What is made is read. -/
namespace Go.Proofs.YtaonjbkkgeiniaaGreatDoor
open Go.RowKit

theorem byt_step (n i : Nat) : n / 256 ^ (i + 1) * 256 + (byt64 n i).toNat = n / 256 ^ i := by
  unfold byt64
  rw [UInt8.toNat_ofNat', Nat.pow_succ, ← Nat.div_div_eq_div_mul]
  generalize n / 256 ^ i = x
  simp only [Nat.reducePow]
  omega
theorem fold_be4 (n z : Nat) (hz : z = n / 256 ^ 4) : (((z * 256 + (byt64 n 3).toNat) * 256 + (byt64 n 2).toNat) * 256 + (byt64 n 1).toNat) * 256 + (byt64 n 0).toNat = n := by
  subst hz
  rw [byt_step n 3, byt_step n 2, byt_step n 1, byt_step n 0, Nat.pow_zero, Nat.div_one]
theorem num_be4 (n : Nat) (h : n < 4294967296) : num (be4 n) = n := fold_be4 n 0 (by rw [Nat.div_eq_of_lt (by simpa using h)])
theorem fold_be8 (n z : Nat) (hz : z = n / 256 ^ 8) : (((((((z * 256 + (byt64 n 7).toNat) * 256 + (byt64 n 6).toNat) * 256 + (byt64 n 5).toNat) * 256 + (byt64 n 4).toNat) * 256 + (byt64 n 3).toNat) * 256 + (byt64 n 2).toNat) * 256 + (byt64 n 1).toNat) * 256 + (byt64 n 0).toNat = n := by
  subst hz
  rw [byt_step n 7, byt_step n 6, byt_step n 5, byt_step n 4, byt_step n 3, byt_step n 2, byt_step n 1, byt_step n 0, Nat.pow_zero, Nat.div_one]
theorem num_be8 (n : Nat) (h : n < 18446744073709551616) : num (be8 n) = n := fold_be8 n 0 (by rw [Nat.div_eq_of_lt (by simpa using h)])

theorem low_four (c : BitVec 32) : lowN (four c) = c := by
  have h := b32lt (rev c)
  unfold lowN
  rw [← be4_rev, num_be4 _ h, BitVec.ofNat_toNat, BitVec.setWidth_eq, rev_rev]
theorem sl_mid (p m r : List UInt8) (a n : Nat) (ha : a = p.length) (hn : n = m.length) : sl (p ++ (m ++ r)) a n = m := by
  subst ha hn
  unfold sl
  rw [List.drop_left, List.take_left]

/-- a frame that was made is read wherever it stands -/
theorem read_made (p l r : List UInt8) (q : Nat) (hq : q < 1048576) (h1 : 1 ≤ l.length) (h2 : l.length ≤ 4096) :
    fE (p ++ (frm q l ++ r)) p.length = 0 ∧ fN (p ++ (frm q l ++ r)) p.length = l.length ∧ fQ (p ++ (frm q l ++ r)) p.length = q ∧ sl (p ++ (frm q l ++ r)) (p.length + 16) l.length = l := by
  obtain ⟨c, hc⟩ : ∃ c, crc (head l.length q ++ l) = c := ⟨_, rfl⟩
  have hf : frm q l = be4 l.length ++ be8 q ++ four c ++ l := by unfold frm; rw [hc]; rfl
  have hL : (p ++ (frm q l ++ r)).length = p.length + 16 + l.length + r.length := by
    rw [hf]; simp only [List.length_append, length_be4, length_be8, length_four]; omega
  have s1 : sl (p ++ (frm q l ++ r)) p.length 4 = be4 l.length := by
    rw [hf]; simp only [List.append_assoc]; exact sl_mid _ _ _ _ _ rfl rfl
  have s2 : sl (p ++ (frm q l ++ r)) (p.length + 4) 8 = be8 q := by
    rw [hf]
    have : p ++ (be4 l.length ++ be8 q ++ four c ++ l ++ r) = (p ++ be4 l.length) ++ (be8 q ++ (four c ++ (l ++ r))) := by simp only [List.append_assoc]
    rw [this]; exact sl_mid _ _ _ _ _ (by rw [List.length_append, length_be4]) rfl
  have s3 : sl (p ++ (frm q l ++ r)) (p.length + 12) 4 = four c := by
    rw [hf]
    have : p ++ (be4 l.length ++ be8 q ++ four c ++ l ++ r) = (p ++ be4 l.length ++ be8 q) ++ (four c ++ (l ++ r)) := by simp only [List.append_assoc]
    rw [this]; exact sl_mid _ _ _ _ _ (by rw [List.length_append, List.length_append, length_be4, length_be8]) rfl
  have s4 : sl (p ++ (frm q l ++ r)) (p.length + 16) l.length = l := by
    rw [hf]
    have : p ++ (be4 l.length ++ be8 q ++ four c ++ l ++ r) = (p ++ be4 l.length ++ be8 q ++ four c) ++ (l ++ r) := by simp only [List.append_assoc]
    rw [this]; exact sl_mid _ _ _ _ _ (by simp only [List.length_append, length_be4, length_be8, length_four]) rfl
  have e1 : fN (p ++ (frm q l ++ r)) p.length = l.length := by unfold fN; rw [s1, num_be4 _ (by omega)]
  have e2 : fQ (p ++ (frm q l ++ r)) p.length = q := by unfold fQ; rw [s2, num_be8 _ (by omega)]
  have e3 : fSum (p ++ (frm q l ++ r)) p.length := by
    unfold fSum
    rw [e1, s4, s3, low_four, ← hc]
    have s5 : sl (p ++ (frm q l ++ r)) p.length 12 = head l.length q := by
      rw [show (12 : Nat) = 4 + 8 from rfl, ← sl_append, s1, s2]; rfl
    rw [s5]
  refine ⟨?_, e1, e2, s4⟩
  unfold fE
  rw [if_neg (by omega), if_neg (not_not_intro (by unfold fOk; rw [e1, e2]; omega)), e1, if_neg (by omega), if_neg (not_not_intro e3)]

end Go.Proofs.YtaonjbkkgeiniaaGreatDoor

/- What a walk is told of slices of integers and of strings that came in. -/
namespace Go.Proofs.YtaonjbkkgeiniaaGreatDoor
open Go.RowKit

/-- a slice of integers that came in: its elements -/
def IntsIn (k : IntKind) (w : World) (a : Option Addr) (len cap : Nat) (l : List Int) : Prop :=
  l.length = len ∧ len ≤ cap ∧ cap ≤ maxLen ∧ (∀ n ∈ l, (Lit.int k n).wf = true) ∧
    (len = 0 ∨ ∃ b off, a = some ⟨b, off, none⟩ ∧ b < w.heap.size ∧ ∀ j, j < len → w.cell? ⟨b, off + j, none⟩ = some (.int k (l.getD j 0)))
/-- a slice of strings that came in: its elements -/
def StrsIn (w : World) (a : Option Addr) (len cap : Nat) (l : List ByteArray) : Prop :=
  l.length = len ∧ len ≤ cap ∧ len ≤ 8796093021952 ∧ (∀ s ∈ l, s.size ≤ 140737488351232) ∧
    (len = 0 ∨ ∃ b off, a = some ⟨b, off, none⟩ ∧ b < w.heap.size ∧ ∀ j, j < len → w.cell? ⟨b, off + j, none⟩ = some (.string (l.getD j ByteArray.empty)))

theorem cell_lt {w : World} {b off : Nat} {v : Value} (h : w.cell? ⟨b, off, none⟩ = some v) : b < w.heap.size := by
  refine Decidable.byContradiction fun hn => ?_
  have : w.heap[b]? = none := Array.getElem?_eq_none (by omega)
  simp [World.cell?, this] at h

theorem row_at {α : Type} {w : World} {a : Addr} {f : Nat → α} {g : α → Value} {n : Nat} (h : ∀ i, i < n → w.cell? (a.add i) = some (g (f i))) (hp : 0 < n) :
    ∃ b off, a = ⟨b, off, none⟩ ∧ b < w.heap.size ∧ ∀ j, j < n → w.cell? ⟨b, off + j, none⟩ = some (g (f j)) := by
  obtain ⟨b, off, spot⟩ := a
  have hspot : spot = none := by simpa [Addr.add] using World.cell?_spot (h 0 hp)
  subst hspot
  have hc : ∀ j, j < n → w.cell? ⟨b, off + j, none⟩ = some (g (f j)) := fun j hj => by rw [← Go.WideShapes.add_plain]; exact h j hj
  exact ⟨b, off, rfl, cell_lt (hc 0 hp), hc⟩

theorem intsIn_nil (k : IntKind) (w : World) : IntsIn k w none 0 0 [] := ⟨rfl, Nat.le_refl _, Nat.zero_le _, (fun _ h => by cases h), .inl rfl⟩
theorem strsIn_nil (w : World) : StrsIn w none 0 0 [] := ⟨rfl, Nat.le_refl _, Nat.zero_le _, (fun _ h => by cases h), .inl rfl⟩

theorem intsIn_of {k : IntKind} {w : World} {a : Addr} {len cap : Nat} {zs : List Int} (hl : len ≤ cap) (hm : cap ≤ maxLen) (hz : len ≤ zs.length) (hc : ∀ i, i < zs.length → w.cell? (a.add i) = some (.int k (zs.getD i 0))) (hw : ∀ n ∈ zs, (Lit.int k n).wf = true) :
    IntsIn k w (some a) len cap (zs.take len) := by
  refine ⟨by rw [List.length_take]; omega, hl, hm, fun n hn => hw n (List.mem_of_mem_take hn), ?_⟩
  by_cases h0 : len = 0
  · exact .inl h0
  · obtain ⟨b, off, rfl, hb, h⟩ := row_at (f := fun i => zs.getD i 0) (g := fun n => .int k n) (n := zs.length) hc (by omega)
    refine .inr ⟨b, off, rfl, hb, fun j hj => ?_⟩
    rw [h j (by omega)]
    simp only [List.getD_eq_getElem?_getD, List.getElem?_take, if_pos hj]
theorem strsIn_of {w : World} {a : Addr} {len cap : Nat} {zs : List ByteArray} (hl : len ≤ cap) (hm : cap ≤ 8796093021952) (hz : len ≤ zs.length) (hc : ∀ i, i < zs.length → w.cell? (a.add i) = some (.string (zs.getD i ByteArray.empty))) (hw : ∀ s ∈ zs.take len, s.size ≤ 140737488351232) :
    StrsIn w (some a) len cap (zs.take len) := by
  refine ⟨by rw [List.length_take]; omega, hl, by omega, hw, ?_⟩
  by_cases h0 : len = 0
  · exact .inl h0
  · obtain ⟨b, off, rfl, hb, h⟩ := row_at (f := fun i => zs.getD i ByteArray.empty) (g := fun n => .string n) (n := zs.length) hc (by omega)
    refine .inr ⟨b, off, rfl, hb, fun j hj => ?_⟩
    rw [h j (by omega)]
    simp only [List.getD_eq_getElem?_getD, List.getElem?_take, if_pos hj]

open Go Go.ChangeShapes in
theorem weightsAll_in {H : Type} {P : Program} {e : TypeId} : ∀ {l : List (DataW H)} {d : DataW H}, d ∈ l → ∀ n ∈ d.weights P e, n ∈ DataW.weightsAll P e l
  | d' :: r, d, hd, n, hn => by
    simp only [DataW.weightsAll, List.mem_append]
    rcases List.mem_cons.1 hd with rfl | h
    · exact Or.inl hn
    · exact Or.inr (weightsAll_in h n hn)
/-- the form's own reach, of strings in a slice -/
theorem sized_strs {H : Type} {P : Program} {ts : List TypeId} {ds : List (DataW H)} (h : (DataW.weightsEach P ts ds).all (· ≤ reachBytes) = true) {j : Nat} {t e : TypeId} {l : List ByteArray} {sp : List (DataW H)}
    (ht : ts[j]? = some t) (hd : ds[j]? = some (.slice (Go.ChangeShapes.strs l) sp)) (hu : P.underlying t = some (.slice e)) : ∀ s ∈ l, s.size ≤ 140737488351232 := by
  intro s hs
  refine of_decide_eq_true (List.all_eq_true.1 h _ (DataW.weights_mem_each ht hd _ ?_))
  simp only [DataW.weights, hu, List.mem_cons, List.mem_append]
  refine Or.inr (Or.inl (weightsAll_in (d := .lit (.string s.data.toList)) (List.mem_map.2 ⟨s, hs, rfl⟩) _ ?_))
  simp [DataW.weights]
theorem sized_cap {H : Type} {P : Program} {ts : List TypeId} {ds : List (DataW H)} (h : (DataW.weightsEach P ts ds).all (· ≤ reachBytes) = true) {j : Nat} {t e : TypeId} {es sp : List (DataW H)} (n : Nat) (hb : P.bytesOf e = n)
    (ht : ts[j]? = some t) (hd : ds[j]? = some (.slice es sp)) (hu : P.underlying t = some (.slice e)) : (es.length + sp.length) * n ≤ 140737488351232 := by
  have := Go.sized_slice h ht hd hu
  rw [hb] at this
  exact this

end Go.Proofs.YtaonjbkkgeiniaaGreatDoor

/- Frames one behind the other: what is scanned of them, whole and cut short. -/
namespace Go.Proofs.YtaonjbkkgeiniaaGreatDoor
open Go.RowKit

/-- frames that are numbered on from f -/
def joinF : Int → List (List UInt8) → List UInt8
  | _, [] => []
  | f, l :: ls => frm f.toNat l ++ joinF (f + 1) ls
/-- where they stand, the first one at a -/
def placesF : Nat → List (List UInt8) → List Nat
  | _, [] => []
  | a, l :: ls => a :: placesF (a + 16 + l.length) ls
/-- how many bytes they are -/
def sizeF : List (List UInt8) → Nat
  | [] => 0
  | l :: ls => 16 + l.length + sizeF ls
/-- may each be made? -/
def okF : Int → List (List UInt8) → Prop
  | _, [] => True
  | f, l :: ls => (0 ≤ f ∧ f < 1048576 ∧ 1 ≤ l.length ∧ l.length ≤ 4096) ∧ okF (f + 1) ls
/-- the cells of their row -/
def rowF : Int → Nat → List (List UInt8) → List Value
  | _, _, [] => []
  | f, a, l :: ls => (frCells f.toNat (bs l) a).toList ++ rowF (f + 1) (a + 16 + l.length) ls
/-- how many of them are whole, up to a place -/
def wholeF : Nat → List (List UInt8) → Nat → Nat
  | _, [], _ => 0
  | a, l :: ls, k => if a + 16 + l.length ≤ k then wholeF (a + 16 + l.length) ls k + 1 else 0

theorem frm_len (q : Nat) (l : List UInt8) : (frm q l).length = 16 + l.length := by
  unfold frm head
  simp only [List.length_append, length_be4, length_be8, length_four]
theorem join_len (ls : List (List UInt8)) : ∀ f, (joinF f ls).length = sizeF ls := by
  induction ls with
  | nil => intro f; rfl
  | cons l ls ih => intro f; show (frm f.toNat l ++ joinF (f + 1) ls).length = _; rw [List.length_append, frm_len, ih]; rfl
theorem size_count (ls : List (List UInt8)) : 16 * ls.length ≤ sizeF ls := by
  induction ls with
  | nil => exact Nat.le_refl _
  | cons l ls ih => show 16 * (ls.length + 1) ≤ 16 + l.length + sizeF ls; omega
theorem size_snoc (ls : List (List UInt8)) (l : List UInt8) : sizeF (ls ++ [l]) = sizeF ls + (16 + l.length) := by
  induction ls with
  | nil => show 16 + l.length + 0 = 0 + _; omega
  | cons m ls ih => show 16 + m.length + sizeF (ls ++ [l]) = 16 + m.length + sizeF ls + _; rw [ih]; omega
theorem size_app (ls ms : List (List UInt8)) : sizeF (ls ++ ms) = sizeF ls + sizeF ms := by
  induction ls with
  | nil => show sizeF ms = 0 + sizeF ms; omega
  | cons m ls ih => show 16 + m.length + sizeF (ls ++ ms) = 16 + m.length + sizeF ls + _; rw [ih]; omega
theorem join_app (ls ms : List (List UInt8)) : ∀ f, joinF f (ls ++ ms) = joinF f ls ++ joinF (f + ls.length) ms := by
  induction ls with
  | nil => intro f; show joinF f ms = [] ++ joinF (f + 0) ms; rw [Int.add_zero]; rfl
  | cons m ls ih =>
    intro f
    show frm f.toNat m ++ joinF (f + 1) (ls ++ ms) = (frm f.toNat m ++ joinF (f + 1) ls) ++ _
    rw [ih, List.append_assoc]
    congr 3
    show f + 1 + (ls.length : Int) = f + ((ls.length + 1 : Nat) : Int)
    omega
theorem join_snoc (ls : List (List UInt8)) (l : List UInt8) (f : Int) : joinF f (ls ++ [l]) = joinF f ls ++ frm (f + ls.length).toNat l := by
  rw [join_app]
  congr 1
  show _ ++ [] = _
  rw [List.append_nil]
theorem ok_app (ls ms : List (List UInt8)) : ∀ f, okF f (ls ++ ms) ↔ okF f ls ∧ okF (f + ls.length) ms := by
  induction ls with
  | nil => intro f; show okF f ms ↔ True ∧ okF (f + 0) ms; rw [Int.add_zero]; simp
  | cons m ls ih =>
    intro f
    show (_ ∧ okF (f + 1) (ls ++ ms)) ↔ (_ ∧ okF (f + 1) ls) ∧ _
    rw [ih, ← and_assoc, show f + 1 + (ls.length : Int) = f + ((m :: ls).length : Int) by rw [List.length_cons]; omega]
theorem ok_snoc (ls : List (List UInt8)) (l : List UInt8) (f : Int) : okF f (ls ++ [l]) ↔ okF f ls ∧ (0 ≤ f + ls.length ∧ f + ls.length < 1048576 ∧ 1 ≤ l.length ∧ l.length ≤ 4096) := by
  rw [ok_app]
  show _ ∧ (_ ∧ True) ↔ _
  simp
theorem ok_first {f : Int} {ls : List (List UInt8)} (h : okF f ls) (h1 : 0 < ls.length) : 0 ≤ f ∧ f + ls.length ≤ 1048576 := by
  induction ls generalizing f with
  | nil => cases h1
  | cons l ls ih =>
    obtain ⟨⟨a, b, c, d⟩, g⟩ := h
    rw [List.length_cons]
    by_cases h2 : 0 < ls.length
    · have := ih g h2; omega
    · omega
theorem ok_count (ls : List (List UInt8)) : ∀ f, okF f ls → 17 * ls.length ≤ sizeF ls := by
  induction ls with
  | nil => intro f _; exact Nat.le_refl _
  | cons l ls ih =>
    intro f h
    have := ih _ h.2
    have := h.1
    show 17 * (ls.length + 1) ≤ 16 + l.length + sizeF ls
    omega
theorem whole_le (ls : List (List UInt8)) : ∀ a k, wholeF a ls k ≤ ls.length := by
  induction ls with
  | nil => intro a k; exact Nat.le_refl _
  | cons l ls ih =>
    intro a k
    show (if _ then _ else _) ≤ ls.length + 1
    split
    · have := ih (a + 16 + l.length) k; show _ + 1 ≤ ls.length + 1; exact Nat.succ_le_succ this
    · omega
theorem places_len (ls : List (List UInt8)) : ∀ a, (placesF a ls).length = ls.length := by
  induction ls with
  | nil => intro a; rfl
  | cons l ls ih => intro a; show (placesF _ ls).length + 1 = _; rw [ih]; rfl
theorem row_len (ls : List (List UInt8)) : ∀ f a, (rowF f a ls).length = 3 * ls.length := by
  induction ls with
  | nil => intro f a; rfl
  | cons l ls ih => intro f a; show (_ ++ rowF _ _ ls).length = _; rw [List.length_append, ih]; show 3 + 3 * ls.length = 3 * (ls.length + 1); omega

theorem made_good (p l r : List UInt8) (f : Int) (h0 : 0 ≤ f) (hq : f < 1048576) (h1 : 1 ≤ l.length) (h2 : l.length ≤ 4096) :
    fGood (p ++ (frm f.toNat l ++ r)) p.length f ∧ fNext (p ++ (frm f.toNat l ++ r)) p.length = p.length + 16 + l.length ∧ fQ (p ++ (frm f.toNat l ++ r)) p.length = f.toNat ∧ sl (p ++ (frm f.toNat l ++ r)) (p.length + 16) (fN (p ++ (frm f.toNat l ++ r)) p.length) = l := by
  obtain ⟨e1, e2, e3, e4⟩ := read_made p l r f.toNat (by omega) h1 h2
  refine ⟨⟨e1, by rw [e3]; omega⟩, ?_, e3, by rw [e2]; exact e4⟩
  unfold fNext
  rw [e2]
theorem app_shift (p m j r : List UInt8) : p ++ ((m ++ j) ++ r) = p ++ (m ++ (j ++ r)) ∧ p ++ ((m ++ j) ++ r) = (p ++ m) ++ (j ++ r) := by
  simp only [List.append_assoc, and_self]
theorem shift_len (p l : List UInt8) (q : Nat) : (p ++ frm q l).length = p.length + 16 + l.length := by rw [List.length_append, frm_len]; omega

theorem scan_join (ls : List (List UInt8)) : ∀ (p r : List UInt8) (f : Int) (k : Nat), okF f ls →
    scanP (p ++ (joinF f ls ++ r)) (ls.length + k) p.length f = placesF p.length ls ++ scanP (p ++ (joinF f ls ++ r)) k (p.length + sizeF ls) (f + ls.length) := by
  induction ls with
  | nil => intro p r f k _; show scanP _ (0 + k) _ _ = [] ++ scanP _ k (p.length + 0) (f + 0); rw [Nat.zero_add, Nat.add_zero, Int.add_zero]; rfl
  | cons l ls ih =>
    intro p r f k h
    obtain ⟨⟨h0, hq, h1, h2⟩, h3⟩ := h
    obtain ⟨a1, a2⟩ := app_shift p (frm f.toNat l) (joinF (f + 1) ls) r
    obtain ⟨g1, g2, g3, g4⟩ := made_good p l (joinF (f + 1) ls ++ r) f h0 hq h1 h2
    show scanP (p ++ ((frm f.toNat l ++ joinF (f + 1) ls) ++ r)) (ls.length + 1 + k) p.length f = (p.length :: placesF (p.length + 16 + l.length) ls) ++ scanP (p ++ ((frm f.toNat l ++ joinF (f + 1) ls) ++ r)) k (p.length + (16 + l.length + sizeF ls)) (f + ((ls.length + 1 : Nat) : Int))
    rw [show ls.length + 1 + k = (ls.length + k) + 1 by omega]
    rw [← a1] at g1 g2
    show (if fGood _ _ _ then _ else _) = _
    rw [if_pos g1, g2, a2]
    have := ih (p ++ frm f.toNat l) r (f + 1) k h3
    rw [shift_len] at this
    rw [this, show p.length + 16 + l.length + sizeF ls = p.length + (16 + l.length + sizeF ls) by omega, show f + 1 + (ls.length : Int) = f + ((ls.length + 1 : Nat) : Int) by omega]
    rfl
theorem row_join (ls : List (List UInt8)) : ∀ (s : ByteArray) (p r : List UInt8) (f : Int), okF f ls → s.data.toList = p ++ (joinF f ls ++ r) → frRow s (placesF p.length ls) = rowF f p.length ls := by
  induction ls with
  | nil => intro s p r f _ _; rfl
  | cons l ls ih =>
    intro s p r f h hs
    obtain ⟨⟨h0, hq, h1, h2⟩, h3⟩ := h
    obtain ⟨a1, a2⟩ := app_shift p (frm f.toNat l) (joinF (f + 1) ls) r
    obtain ⟨g1, g2, g3, g4⟩ := made_good p l (joinF (f + 1) ls ++ r) f h0 hq h1 h2
    have hs1 : s.data.toList = p ++ ((frm f.toNat l ++ joinF (f + 1) ls) ++ r) := hs
    rw [← a1, ← hs1] at g3 g4
    have := ih s (p ++ frm f.toNat l) r (f + 1) h3 (by rw [hs1, a2])
    rw [shift_len] at this
    show frRow s (p.length :: placesF (p.length + 16 + l.length) ls) = (frCells f.toNat (bs l) p.length).toList ++ rowF (f + 1) (p.length + 16 + l.length) ls
    rw [← this]
    show (frCells (fQ s.data.toList p.length) (bs (sl s.data.toList (p.length + 16) (fN s.data.toList p.length))) p.length).toList ++ _ = _
    rw [g3, g4]
    rfl
theorem good_join (ls : List (List UInt8)) : ∀ (p r : List UInt8) (f : Int), okF f ls → goodP (p ++ (joinF f ls ++ r)) p.length (placesF p.length ls) = p.length + sizeF ls := by
  induction ls with
  | nil => intro p r f _; rfl
  | cons l ls ih =>
    intro p r f h
    obtain ⟨⟨h0, hq, h1, h2⟩, h3⟩ := h
    obtain ⟨a1, a2⟩ := app_shift p (frm f.toNat l) (joinF (f + 1) ls) r
    obtain ⟨g1, g2, g3, g4⟩ := made_good p l (joinF (f + 1) ls ++ r) f h0 hq h1 h2
    rw [← a1] at g2
    show goodP (p ++ ((frm f.toNat l ++ joinF (f + 1) ls) ++ r)) (fNext (p ++ ((frm f.toNat l ++ joinF (f + 1) ls) ++ r)) p.length) (placesF (p.length + 16 + l.length) ls) = p.length + (16 + l.length + sizeF ls)
    rw [g2, a2]
    have := ih (p ++ frm f.toNat l) r (f + 1) h3
    rw [shift_len] at this
    rw [this]
    omega
theorem good_app (l : List UInt8) (xs : List Nat) : ∀ (a : Nat) (ys : List Nat), goodP l a (xs ++ ys) = goodP l (goodP l a xs) ys := by
  intro a ys; unfold goodP; rw [List.foldl_append]

/-- a frame that is cut short is not read -/
theorem torn_bad (p l : List UInt8) (q j : Nat) (hq : q < 1048576) (h1 : 1 ≤ l.length) (h2 : l.length ≤ 4096) (hj : j < 16 + l.length) : fE (p ++ (frm q l).take j) p.length = 8 := by
  have hL : (p ++ (frm q l).take j).length = p.length + j := by rw [List.length_append, List.length_take, frm_len]; omega
  unfold fE
  rw [hL]
  by_cases h16 : j < 16
  · rw [if_pos (by omega)]
  · rw [if_neg (by omega)]
    obtain ⟨c, hc⟩ : ∃ c, crc (head l.length q ++ l) = c := ⟨_, rfl⟩
    have hf : frm q l = be4 l.length ++ (be8 q ++ (four c ++ l)) := by unfold frm; rw [hc]; show be4 l.length ++ be8 q ++ four c ++ l = _; simp only [List.append_assoc]
    have ht : (frm q l).take j = be4 l.length ++ (be8 q ++ (four c ++ l.take (j - 16))) := by
      rw [hf, List.take_append, List.take_append, List.take_append]
      simp only [length_be4, length_be8, length_four]
      rw [List.take_of_length_le (by rw [length_be4]; omega), List.take_of_length_le (by rw [length_be8]; omega), List.take_of_length_le (by rw [length_four]; omega), show j - 4 - 8 - 4 = j - 16 by omega]
    have s1 : sl (p ++ (frm q l).take j) p.length 4 = be4 l.length := by rw [ht]; exact sl_mid _ _ _ _ _ rfl rfl
    have s2 : sl (p ++ (frm q l).take j) (p.length + 4) 8 = be8 q := by
      rw [ht]
      have : p ++ (be4 l.length ++ (be8 q ++ (four c ++ l.take (j - 16)))) = (p ++ be4 l.length) ++ (be8 q ++ (four c ++ l.take (j - 16))) := by simp only [List.append_assoc]
      rw [this]; exact sl_mid _ _ _ _ _ (by rw [List.length_append, length_be4]) rfl
    have e1 : fN (p ++ (frm q l).take j) p.length = l.length := by unfold fN; rw [s1, num_be4 _ (by omega)]
    have e2 : fQ (p ++ (frm q l).take j) p.length = q := by unfold fQ; rw [s2, num_be8 _ (by omega)]
    rw [if_neg (not_not_intro (by unfold fOk; rw [e1, e2]; omega)), e1, if_pos (by omega)]
/-- what is cut: the whole ones, and a piece of one -/
theorem take_join (ls : List (List UInt8)) : ∀ (p : List UInt8) (f : Int) (k : Nat), okF f ls → p.length ≤ k →
    ∃ r, (p ++ joinF f ls).take k = p ++ (joinF f (ls.take (wholeF p.length ls k)) ++ r) ∧ fE (p ++ (joinF f (ls.take (wholeF p.length ls k)) ++ r)) (p.length + sizeF (ls.take (wholeF p.length ls k))) = 8 := by
  induction ls with
  | nil =>
    intro p f k _ hk
    refine ⟨[], ?_, ?_⟩
    · show (p ++ []).take k = p ++ ([] ++ []); simp only [List.append_nil]; exact List.take_of_length_le hk
    · show fE (p ++ ([] ++ [])) (p.length + 0) = 8
      unfold fE; rw [if_pos (by simp only [List.append_nil]; omega)]
  | cons l ls ih =>
    intro p f k h hk
    obtain ⟨⟨h0, hq, h1, h2⟩, h3⟩ := h
    by_cases hw : p.length + 16 + l.length ≤ k
    · have e : wholeF p.length (l :: ls) k = wholeF (p.length + 16 + l.length) ls k + 1 := by show (if _ then _ else _) = _; rw [if_pos hw]
      obtain ⟨r, e1, e2⟩ := ih (p ++ frm f.toNat l) (f + 1) k h3 (by rw [shift_len]; omega)
      rw [shift_len] at e1 e2
      refine ⟨r, ?_, ?_⟩
      · rw [e]
        show (p ++ (frm f.toNat l ++ joinF (f + 1) ls)).take k = p ++ ((frm f.toNat l ++ joinF (f + 1) (ls.take _)) ++ r)
        rw [← List.append_assoc, e1, (app_shift _ _ _ _).2]
      · rw [e]
        show fE (p ++ ((frm f.toNat l ++ joinF (f + 1) (ls.take _)) ++ r)) (p.length + (16 + l.length + sizeF (ls.take _))) = 8
        rw [(app_shift _ _ _ _).2, show p.length + (16 + l.length + sizeF (ls.take (wholeF (p.length + 16 + l.length) ls k))) = p.length + 16 + l.length + sizeF (ls.take (wholeF (p.length + 16 + l.length) ls k)) by omega]
        exact e2
    · have e : wholeF p.length (l :: ls) k = 0 := by show (if _ then _ else _) = _; rw [if_neg hw]
      rw [e]
      refine ⟨(frm f.toNat l).take (k - p.length), ?_, ?_⟩
      · show (p ++ (frm f.toNat l ++ joinF (f + 1) ls)).take k = p ++ ([] ++ _)
        rw [List.nil_append, List.take_append, List.take_of_length_le hk, List.take_append_of_le_length (by rw [frm_len]; omega)]
      · show fE (p ++ ([] ++ _)) (p.length + 0) = 8
        rw [List.nil_append]
        exact torn_bad p l f.toNat _ (by omega) h1 h2 (by omega)
theorem scan_stop (l : List UInt8) (k a : Nat) (f : Int) (h : fE l a ≠ 0) : scanP l k a f = [] := by
  cases k with
  | zero => rfl
  | succ k => show (if _ then _ else _) = _; rw [if_neg (fun g => h g.1)]

/-- a scan of frames, and of what stands behind -/
theorem scanL_join (ls : List (List UInt8)) (p r : List UInt8) (f : Int) (h : okF f ls) :
    ∃ ys, scanL (p ++ (joinF f ls ++ r)) p.length f = placesF p.length ls ++ ys ∧ ys = scanP (p ++ (joinF f ls ++ r)) (p.length + sizeF ls + r.length + 1 - ls.length) (p.length + sizeF ls) (f + ls.length) ∧
      scanG (p ++ (joinF f ls ++ r)) p.length f = goodP (p ++ (joinF f ls ++ r)) (p.length + sizeF ls) ys := by
  have hc := ok_count ls f h
  have hL : (p ++ (joinF f ls ++ r)).length = p.length + sizeF ls + r.length := by rw [List.length_append, List.length_append, join_len]; omega
  have hi : ¬ ((p.length : Int) < 0 ∨ ((p ++ (joinF f ls ++ r)).length : Int) < (p.length : Int)) := by rw [hL]; omega
  have e : scanL (p ++ (joinF f ls ++ r)) p.length f = placesF p.length ls ++ scanP (p ++ (joinF f ls ++ r)) (p.length + sizeF ls + r.length + 1 - ls.length) (p.length + sizeF ls) (f + ls.length) := by
    unfold scanL
    rw [if_neg hi, Int.toNat_natCast, hL]
    have := scan_join ls p r f (p.length + sizeF ls + r.length + 1 - ls.length) h
    rw [show ls.length + (p.length + sizeF ls + r.length + 1 - ls.length) = p.length + sizeF ls + r.length + 1 by omega] at this
    exact this
  refine ⟨_, e, rfl, ?_⟩
  unfold scanG
  rw [if_neg hi, e, Int.toNat_natCast, good_app, good_join ls p r f h]
/-- nothing is read behind them -/
theorem scanL_stop (ls : List (List UInt8)) (p r : List UInt8) (f : Int) (h : okF f ls) (hb : fE (p ++ (joinF f ls ++ r)) (p.length + sizeF ls) ≠ 0) :
    scanL (p ++ (joinF f ls ++ r)) p.length f = placesF p.length ls ∧ scanG (p ++ (joinF f ls ++ r)) p.length f = p.length + sizeF ls := by
  obtain ⟨ys, e1, e2, e3⟩ := scanL_join ls p r f h
  rw [scan_stop _ _ _ _ hb] at e2
  rw [e1, e3, e2, List.append_nil]
  exact ⟨rfl, rfl⟩
theorem scanL_whole (ls : List (List UInt8)) (p : List UInt8) (f : Int) (h : okF f ls) :
    scanL (p ++ joinF f ls) p.length f = placesF p.length ls ∧ scanG (p ++ joinF f ls) p.length f = p.length + sizeF ls := by
  have := scanL_stop ls p [] f h (by
    have hL : (p ++ (joinF f ls ++ [])).length = p.length + sizeF ls := by rw [List.length_append, List.append_nil, join_len]
    unfold fE; rw [if_pos (by omega)]; decide)
  rw [List.append_nil] at this
  exact this
theorem scanL_cut (ls : List (List UInt8)) (p : List UInt8) (f : Int) (k : Nat) (h : okF f ls) (hk : p.length ≤ k) :
    scanL ((p ++ joinF f ls).take k) p.length f = placesF p.length (ls.take (wholeF p.length ls k)) ∧ scanG ((p ++ joinF f ls).take k) p.length f = p.length + sizeF (ls.take (wholeF p.length ls k)) := by
  obtain ⟨r, e1, e2⟩ := take_join ls p f k h hk
  have hw := whole_le ls p.length k
  have ho : okF f (ls.take (wholeF p.length ls k)) := by
    have := (ok_app (ls.take (wholeF p.length ls k)) (ls.drop (wholeF p.length ls k)) f).1
    rw [List.take_append_drop] at this
    exact (this h).1
  rw [e1]
  exact scanL_stop _ p r f ho (by rw [e2]; decide)
theorem ok_take {f : Int} {ls : List (List UInt8)} (h : okF f ls) (k : Nat) : okF f (ls.take k) := by
  have := (ok_app (ls.take k) (ls.drop k) f).1
  rw [List.take_append_drop] at this
  exact (this h).1
theorem good_ge (l : List UInt8) (k : Nat) : ∀ (a : Nat) (f : Int), a ≤ goodP l a (scanP l k a f) := by
  induction k with
  | zero => intro a f; exact Nat.le_refl _
  | succ k ih =>
    intro a f
    by_cases h : fGood l a f
    · have e : scanP l (k + 1) a f = a :: scanP l k (fNext l a) (f + 1) := by show (if _ then _ else _) = _; rw [if_pos h]
      rw [e]
      show a ≤ goodP l (fNext l a) (scanP l k (fNext l a) (f + 1))
      have := ih (fNext l a) (f + 1)
      unfold fNext at this ⊢
      omega
    · have e : scanP l (k + 1) a f = [] := by show (if _ then _ else _) = _; rw [if_neg h]
      rw [e]; exact Nat.le_refl _

end Go.Proofs.YtaonjbkkgeiniaaGreatDoor

/- What stands in the rows of frames, by place. -/
namespace Go.Proofs.YtaonjbkkgeiniaaGreatDoor
open Go.RowKit

theorem size_take_succ (ls : List (List UInt8)) (k : Nat) (h : k < ls.length) : sizeF (ls.take (k + 1)) = sizeF (ls.take k) + (16 + ls[k].length) := by
  rw [List.take_succ_eq_append_getElem h, size_snoc]
theorem size_take_le (ls : List (List UInt8)) (k : Nat) : sizeF (ls.take k) ≤ sizeF ls := by
  have := size_app (ls.take k) (ls.drop k)
  rw [List.take_append_drop] at this
  omega
theorem size_take_mono (ls : List (List UInt8)) (j k : Nat) (h : j ≤ k) : sizeF (ls.take j) ≤ sizeF (ls.take k) := by
  have := size_take_le (ls.take k) j
  rw [List.take_take, Nat.min_eq_left h] at this
  exact this
theorem join_take_succ (f : Int) (ls : List (List UInt8)) (k : Nat) (h : k < ls.length) : joinF f (ls.take (k + 1)) = joinF f (ls.take k) ++ frm (f + k).toNat ls[k] := by
  rw [List.take_succ_eq_append_getElem h, join_snoc, List.length_take, Nat.min_eq_left (by omega)]
theorem ok_take_succ (f : Int) (ls : List (List UInt8)) (k : Nat) (h : k < ls.length) : okF f (ls.take (k + 1)) ↔ okF f (ls.take k) ∧ (0 ≤ f + k ∧ f + k < 1048576 ∧ 1 ≤ ls[k].length ∧ ls[k].length ≤ 4096) := by
  rw [List.take_succ_eq_append_getElem h, ok_snoc, List.length_take, Nat.min_eq_left (by omega)]

/-- the frames' ends -/
def endsF (ls : List (List UInt8)) (k : Nat) : List Int := (List.range k).map fun i => (sizeF (ls.take (i + 1)) : Int)
theorem ends_len (ls : List (List UInt8)) (k : Nat) : (endsF ls k).length = k := by unfold endsF; rw [List.length_map, List.length_range]
theorem ends_succ (ls : List (List UInt8)) (k : Nat) : endsF ls (k + 1) = endsF ls k ++ [(sizeF (ls.take (k + 1)) : Int)] := by
  unfold endsF; rw [List.range_succ, List.map_append]; rfl
theorem ends_get (ls : List (List UInt8)) (k i : Nat) (h : i < k) : ((endsF ls k).map (Value.int .i64))[i]? = some (.int .i64 (sizeF (ls.take (i + 1)) : Int)) := by
  unfold endsF
  rw [List.getElem?_map, List.getElem?_map, List.getElem?_range h]; rfl

theorem rowF_get (ls : List (List UInt8)) : ∀ (f : Int) (a i : Nat), (h : i < ls.length) → okF f ls →
    (rowF f a ls)[3 * i]? = some (.int .i64 (f + i)) ∧ (rowF f a ls)[3 * i + 1]? = some (.string (bs ls[i])) ∧ (rowF f a ls)[3 * i + 2]? = some (.int .i64 (a + sizeF (ls.take i) : Nat)) := by
  induction ls with
  | nil => intro f a i h; cases h
  | cons l ls ih =>
    intro f a i h hk
    obtain ⟨⟨h0, _⟩, hk'⟩ := hk
    have e3 : (frCells f.toNat (bs l) a).toList.length = 3 := rfl
    cases i with
    | zero =>
      refine ⟨?_, rfl, ?_⟩
      · show some (Value.int .i64 (f.toNat : Int)) = _
        rw [Int.toNat_of_nonneg h0]; show _ = some (Value.int .i64 (f + (0 : Nat))); congr 2; omega
      · show some (Value.int .i64 (a : Int)) = some (Value.int .i64 ((a + 0 : Nat) : Int)); rfl
    | succ i =>
      have h' : i < ls.length := by have : i + 1 < ls.length + 1 := h; omega
      obtain ⟨g1, g2, g3⟩ := ih (f + 1) (a + 16 + l.length) i h' hk'
      have e : rowF f a (l :: ls) = (frCells f.toNat (bs l) a).toList ++ rowF (f + 1) (a + 16 + l.length) ls := rfl
      rw [e, List.getElem?_append_right (by rw [e3]; omega), List.getElem?_append_right (by rw [e3]; omega), List.getElem?_append_right (by rw [e3]; omega), e3, show 3 * (i + 1) - 3 = 3 * i by omega, show 3 * (i + 1) + 1 - 3 = 3 * i + 1 by omega, show 3 * (i + 1) + 2 - 3 = 3 * i + 2 by omega]
      refine ⟨?_, g2, ?_⟩
      · rw [g1]; congr 2; omega
      · rw [g3]; congr 3; show a + 16 + l.length + sizeF (ls.take i) = a + (16 + l.length + sizeF (ls.take i)); omega

/-- the cells of a row of frames -/
theorem row_cells {w : World} {B cap n : Nat} {oa : Option Addr} {xs : List Value} (h : w.ownsRow B 60 3 (.slice oa n cap) n xs) (h0 : 0 < n) :
    ∃ g, oa = some ⟨g, 0, none⟩ ∧ g < w.heap.size ∧ B ≤ g ∧ ∀ (j : Nat) v, xs[j]? = some v → w.cell? ⟨g, j, none⟩ = some v := by
  rcases h.2 with ⟨_, hn⟩ | ⟨g, c, cur, hv, hB, hcur, _⟩
  · subst hn; cases h0
  · cases hv
    have add : ∀ j, (⟨g, 0, none⟩ : Addr).add j = ⟨g, j, none⟩ := fun j => by unfold Addr.add; split <;> simp_all
    refine ⟨g, rfl, (Array.getElem?_eq_some_iff.1 hcur).1, hB, fun j v hj => ?_⟩
    have c0 := h.cells (g := g) rfl j v hj
    rwa [add] at c0
theorem irow_cells {w : World} {B cap n : Nat} {oa : Option Addr} {xs : List Value} {t : TypeId} (h : w.ownsRow B t 1 (.slice oa n cap) n xs) (h0 : 0 < n) :
    ∃ g, oa = some ⟨g, 0, none⟩ ∧ g < w.heap.size ∧ B ≤ g ∧ ∀ (j : Nat) v, xs[j]? = some v → w.cell? ⟨g, j, none⟩ = some v := by
  rcases h.2 with ⟨_, hn⟩ | ⟨g, c, cur, hv, hB, hcur, _⟩
  · subst hn; cases h0
  · cases hv
    have add : ∀ j, (⟨g, 0, none⟩ : Addr).add j = ⟨g, j, none⟩ := fun j => by unfold Addr.add; split <;> simp_all
    refine ⟨g, rfl, (Array.getElem?_eq_some_iff.1 hcur).1, hB, fun j v hj => ?_⟩
    have c0 := h.cells (g := g) rfl j v hj
    rwa [add] at c0
theorem row_shape {w : World} {B n k : Nat} {v : Value} {xs : List Value} {t : TypeId} (h : w.ownsRow B t k v n xs) : ∃ oa cap, v = .slice oa n cap := by
  rcases h.2 with ⟨rfl, rfl⟩ | ⟨g, c, cur, rfl, _⟩
  · exact ⟨none, 0, rfl⟩
  · exact ⟨_, _, rfl⟩

/-- how many are whole -/
theorem whole_iff (ls : List (List UInt8)) : ∀ (a k j : Nat), j < wholeF a ls k ↔ (j < ls.length ∧ a + sizeF (ls.take (j + 1)) ≤ k) := by
  induction ls with
  | nil => intro a k j; show j < 0 ↔ j < 0 ∧ _; omega
  | cons l ls ih =>
    intro a k j
    have e : wholeF a (l :: ls) k = if a + 16 + l.length ≤ k then wholeF (a + 16 + l.length) ls k + 1 else 0 := rfl
    have hl : (l :: ls).length = ls.length + 1 := rfl
    have hs : ∀ i, sizeF ((l :: ls).take (i + 1)) = 16 + l.length + sizeF (ls.take i) := fun i => rfl
    rw [e, hl]
    by_cases hk : a + 16 + l.length ≤ k
    · rw [if_pos hk]
      cases j with
      | zero =>
        rw [hs 0]
        show 0 < wholeF (a + 16 + l.length) ls k + 1 ↔ 0 < ls.length + 1 ∧ a + (16 + l.length + 0) ≤ k
        omega
      | succ j =>
        have := ih (a + 16 + l.length) k j
        rw [hs (j + 1)]
        constructor
        · intro h; have := this.1 (by omega); omega
        · intro h; have := this.2 ⟨by omega, by omega⟩; omega
    · rw [if_neg hk, hs j]
      omega

end Go.Proofs.YtaonjbkkgeiniaaGreatDoor

/- The marks of an index; what is found by them. Plain lists. -/
namespace Go.Proofs.YtaonjbkkgeiniaaGreatDoor
open Go.RowKit

/-- how many marks n frames have, one every e -/
def cntM (e n : Nat) : Nat := (n + e - 1) / e
theorem cnt_succ (e n : Nat) (he : 0 < e) : cntM e (n + 1) = cntM e n + (if n % e = 0 then 1 else 0) := by
  unfold cntM
  have hd := Nat.div_add_mod n e
  have hm := Nat.mod_lt n he
  obtain ⟨q, hq⟩ : ∃ q, n / e = q := ⟨_, rfl⟩
  obtain ⟨r, hr⟩ : ∃ r, n % e = r := ⟨_, rfl⟩
  rw [hq, hr] at hd
  rw [hr] at hm ⊢
  have e1 : n + 1 + e - 1 = e * (q + 1) + r := by rw [Nat.mul_add]; omega
  rw [e1, Nat.mul_add_div he, Nat.div_eq_of_lt hm]
  by_cases h0 : r = 0
  · rw [if_pos h0]
    have e2 : n + e - 1 = e * q + (e - 1) := by omega
    rw [e2, Nat.mul_add_div he, Nat.div_eq_of_lt (by omega)]
  · rw [if_neg h0]
    have e2 : n + e - 1 = e * (q + 1) + (r - 1) := by rw [Nat.mul_add]; omega
    rw [e2, Nat.mul_add_div he, Nat.div_eq_of_lt (by omega)]
theorem cnt_zero (e : Nat) (he : 0 < e) : cntM e 0 = 0 := by unfold cntM; exact Nat.div_eq_of_lt (by omega)
theorem cnt_lt (e n j : Nat) (he : 0 < e) : j < cntM e n ↔ j * e < n := by
  unfold cntM
  rw [Nat.lt_iff_add_one_le, Nat.le_div_iff_mul_le he, Nat.add_mul]
  omega
theorem cnt_le (e n : Nat) (he : 0 < e) : cntM e n ≤ n := by
  unfold cntM
  rw [Nat.div_le_iff_le_mul_add_pred he]
  have := Nat.mul_le_mul_right n (show 1 ≤ e from he)
  rw [Nat.one_mul] at this
  have h2 : e * n + e - 1 = e * n + (e - 1) := by omega
  omega

/-- the marks -/
def marksL (e f : Nat) (ps : List Nat) : List (Nat × Nat) := (List.range (cntM e ps.length)).map fun j => (f + j * e, ps.getD (j * e) 0)
theorem marks_len (e f : Nat) (ps : List Nat) : (marksL e f ps).length = cntM e ps.length := by unfold marksL; simp
theorem marks_nil (e f : Nat) (he : 0 < e) : marksL e f [] = [] := by unfold marksL; rw [show ([] : List Nat).length = 0 from rfl, cnt_zero e he]; rfl
theorem marks_get (e f : Nat) (ps : List Nat) (j : Nat) (h : j < cntM e ps.length) : (marksL e f ps)[j]? = some (f + j * e, ps.getD (j * e) 0) := by
  unfold marksL; simp [h]
theorem mod_zero_mul (n e : Nat) (h : n % e = 0) : n / e * e = n := by have := Nat.div_add_mod n e; rw [Nat.mul_comm]; omega
theorem getD_snoc_lt {ps : List Nat} {p k : Nat} (h : k < ps.length) : (ps ++ [p]).getD k 0 = ps.getD k 0 := by
  simp only [List.getD_eq_getElem?_getD, List.getElem?_append_left h]
theorem marks_snoc (e f : Nat) (ps : List Nat) (p : Nat) (he : 0 < e) : marksL e f (ps ++ [p]) = marksL e f ps ++ (if ps.length % e = 0 then [(f + ps.length, p)] else []) := by
  have hold : ∀ j, j ∈ List.range (cntM e ps.length) → (f + j * e, (ps ++ [p]).getD (j * e) 0) = (f + j * e, ps.getD (j * e) 0) := by
    intro j hj
    rw [getD_snoc_lt ((cnt_lt e _ j he).1 (List.mem_range.1 hj))]
  unfold marksL
  rw [List.length_append, List.length_singleton, cnt_succ e _ he]
  by_cases h : ps.length % e = 0
  · rw [if_pos h, if_pos h, List.range_succ, List.map_append, List.map_congr_left hold]
    have hc : cntM e ps.length * e = ps.length := by
      have : cntM e ps.length = ps.length / e := by
        unfold cntM
        have h3 : ps.length + e - 1 = e * (ps.length / e) + (e - 1) := by have := mod_zero_mul ps.length e h; rw [Nat.mul_comm]; omega
        rw [h3, Nat.mul_add_div he, Nat.div_eq_of_lt (a := e - 1) (by omega), Nat.add_zero]
      rw [this, mod_zero_mul _ _ h]
    simp only [List.map_cons, List.map_nil, hc]
    congr 3
    simp
  · rw [if_neg h, if_neg h, Nat.add_zero, List.append_nil, List.map_congr_left hold]

/-- the cells of marks -/
def mkRow (ms : List (Nat × Nat)) : List Value := ms.flatMap fun m => [.int .i64 m.1, .int .i64 m.2]
theorem mkRow_snoc (ms : List (Nat × Nat)) (m : Nat × Nat) : mkRow (ms ++ [m]) = mkRow ms ++ [.int .i64 m.1, .int .i64 m.2] := by unfold mkRow; simp
theorem mkRow_len (ms : List (Nat × Nat)) : (mkRow ms).length = ms.length * 2 := by
  induction ms with
  | nil => rfl
  | cons m ms ih => show (_ :: _ :: mkRow ms).length = _; rw [List.length_cons, List.length_cons, ih, List.length_cons]; omega
theorem mkRow_get (ms : List (Nat × Nat)) (j : Nat) (m : Nat × Nat) (h : ms[j]? = some m) : (mkRow ms)[j * 2]? = some (.int .i64 m.1) ∧ (mkRow ms)[j * 2 + 1]? = some (.int .i64 m.2) := by
  induction ms generalizing j with
  | nil => cases h
  | cons x ms ih =>
    have e : mkRow (x :: ms) = [.int .i64 x.1, .int .i64 x.2] ++ mkRow ms := rfl
    cases j with
    | zero => cases h; exact ⟨rfl, rfl⟩
    | succ j =>
      obtain ⟨h1, h2⟩ := ih j h
      rw [e]
      refine ⟨?_, ?_⟩
      · rw [List.getElem?_append_right (by show 2 ≤ _; omega), show (j + 1) * 2 - [Value.int .i64 x.1, .int .i64 x.2].length = j * 2 from by show (j + 1) * 2 - 2 = _; omega]; exact h1
      · rw [List.getElem?_append_right (by show 2 ≤ _; omega), show (j + 1) * 2 + 1 - [Value.int .i64 x.1, .int .i64 x.2].length = j * 2 + 1 from by show (j + 1) * 2 + 1 - 2 = _; omega]; exact h2
theorem mkRow_one (ms : List (Nat × Nat)) : ∀ u ∈ mkRow ms, u.oneCell' = true := by
  intro u hu
  unfold mkRow at hu
  obtain ⟨m, _, hm⟩ := List.mem_flatMap.1 hu
  rcases List.mem_cons.1 hm with rfl | hm
  · rfl
  · rcases List.mem_cons.1 hm with rfl | hm
    · rfl
    · cases hm

/-- what is read from a mark on: the payload, or the error; k frames are passed over -/
def getE (l : List UInt8) : Nat → Nat → Nat → Nat
  | k, a, q =>
    if fE l (min a l.length) ≠ 0 then fE l (min a l.length)
    else if fQ l (min a l.length) ≠ q then 4
    else match k with
      | 0 => 0
      | k + 1 => getE l k (fNext l (min a l.length)) (q + 1)
def getA (l : List UInt8) : Nat → Nat → Nat
  | 0, a => min a l.length
  | k + 1, a => getA l k (fNext l (min a l.length))
/-- the payload's bytes -/
def getP (l : List UInt8) (k a q : Nat) : List UInt8 := if getE l k a q = 0 then sl l (getA l k a + 16) (fN l (getA l k a)) else []

end Go.Proofs.YtaonjbkkgeiniaaGreatDoor

/- A segment's header, and a segment of payloads, as lists of bytes. -/
namespace Go.Proofs.YtaonjbkkgeiniaaGreatDoor
open Go.RowKit

def magicL : List UInt8 := [115, 101, 103, 49]
/-- a header -/
def hdrL (n : Nat) : List UInt8 := sealL (magicL ++ be8 n)
theorem hdr_len (n : Nat) : (hdrL n).length = 16 := by unfold hdrL; rw [length_seal]; rfl
/-- what is wrong with a header; its number -/
def hdE (l : List UInt8) : Nat := if l.length < 16 then 8 else if l.take 4 ≠ magicL then 4 else if isSealed (l.take 16) = false then 42 else if 1048576 < num (sl l 4 8) then 4 else 0
def hdF (l : List UInt8) : Nat := num (sl l 4 8)
theorem hdr_parts (n : Nat) (r : List UInt8) : (hdrL n ++ r).take 16 = hdrL n ∧ (hdrL n ++ r).take 4 = magicL ∧ sl (hdrL n ++ r) 4 8 = be8 n := by
  refine ⟨by rw [← hdr_len n, List.take_left], ?_, ?_⟩
  · have e : hdrL n ++ r = magicL ++ (be8 n ++ four (crc (magicL ++ be8 n)) ++ r) := by unfold hdrL sealL; simp only [List.append_assoc]
    rw [e]; exact List.take_left (l₁ := magicL)
  · have e : hdrL n ++ r = magicL ++ (be8 n ++ (four (crc (magicL ++ be8 n)) ++ r)) := by unfold hdrL sealL; simp only [List.append_assoc]
    rw [e]; exact sl_mid _ _ _ _ _ rfl rfl
theorem hd_made (n : Nat) (r : List UInt8) (h : n ≤ 1048576) : hdE (hdrL n ++ r) = 0 ∧ hdF (hdrL n ++ r) = n := by
  obtain ⟨h1, h2, h3⟩ := hdr_parts n r
  have hn : num (sl (hdrL n ++ r) 4 8) = n := by rw [h3, num_be8 _ (by omega)]
  refine ⟨?_, hn⟩
  unfold hdE
  rw [if_neg (by rw [List.length_append, hdr_len]; omega), if_neg (not_not_intro h2), h1, if_neg (by unfold hdrL; rw [isSealed_seal]; simp), hn, if_neg (by omega)]
theorem hd_ok {l : List UInt8} (h : hdE l = 0) : 16 ≤ l.length ∧ l.take 4 = magicL ∧ isSealed (l.take 16) = true ∧ hdF l ≤ 1048576 := by
  unfold hdE at h
  by_cases h1 : l.length < 16
  · rw [if_pos h1] at h; cases h
  rw [if_neg h1] at h
  by_cases h2 : l.take 4 = magicL
  · rw [if_neg (not_not_intro h2)] at h
    by_cases h3 : isSealed (l.take 16) = false
    · rw [if_pos h3] at h; cases h
    rw [if_neg h3] at h
    by_cases h4 : 1048576 < num (sl l 4 8)
    · rw [if_pos h4] at h; cases h
    · exact ⟨by omega, h2, by simpa using h3, by unfold hdF; omega⟩
  · rw [if_pos h2] at h; cases h

/-- may a payload be one? -/
def payOk (l : List UInt8) : Prop := 1 ≤ l.length ∧ l.length ≤ 4096
instance (l : List UInt8) : Decidable (payOk l) := by unfold payOk; infer_instance
/-- Join's error, its text -/
def jnE (f : Int) (ls : List (List UInt8)) : Nat := if f < 0 ∨ 1048576 < f then 1 else if ∃ l ∈ ls, ¬ payOk l then 4 else if 1048576 < f + ls.length then 40 else if 1048576 < 16 + sizeF ls then 40 else 0
def jnL (f : Int) (ls : List (List UInt8)) : List UInt8 := if jnE f ls = 0 then hdrL f.toNat ++ joinF f ls else []
theorem ok_of (ls : List (List UInt8)) : ∀ f : Int, 0 ≤ f → f + ls.length ≤ 1048576 → (∀ l ∈ ls, payOk l) → okF f ls := by
  induction ls with
  | nil => intro f _ _ _; trivial
  | cons l ls ih =>
    intro f h0 h1 h2
    rw [List.length_cons] at h1
    have hl := h2 l (List.mem_cons_self ..)
    exact ⟨⟨h0, by omega, hl.1, hl.2⟩, ih (f + 1) (by omega) (by omega) (fun m hm => h2 m (List.mem_cons_of_mem _ hm))⟩
theorem jn_ok {f : Int} {ls : List (List UInt8)} (h : jnE f ls = 0) : 0 ≤ f ∧ f + ls.length ≤ 1048576 ∧ (∀ l ∈ ls, payOk l) ∧ 16 + sizeF ls ≤ 1048576 ∧ okF f ls := by
  unfold jnE at h
  by_cases h1 : f < 0 ∨ 1048576 < f
  · rw [if_pos h1] at h; cases h
  rw [if_neg h1] at h
  by_cases h2 : ∃ l ∈ ls, ¬ payOk l
  · rw [if_pos h2] at h; cases h
  rw [if_neg h2] at h
  by_cases h3 : 1048576 < f + ls.length
  · rw [if_pos h3] at h; cases h
  rw [if_neg h3] at h
  by_cases h4 : 1048576 < 16 + sizeF ls
  · rw [if_pos h4] at h; cases h
  have hp : ∀ l ∈ ls, payOk l := fun l hl => Decidable.byContradiction fun hn => h2 ⟨l, hl, hn⟩
  exact ⟨by omega, by omega, hp, by omega, ok_of ls f (by omega) (by omega) hp⟩
/-- what is scanned of a segment of payloads -/
theorem seg_scan {f : Int} {ls : List (List UInt8)} (h : jnE f ls = 0) : jnL f ls = hdrL f.toNat ++ joinF f ls ∧ (jnL f ls).length = 16 + sizeF ls ∧ hdE (jnL f ls) = 0 ∧ (hdF (jnL f ls) : Int) = f ∧
    scanL (jnL f ls) 16 f = placesF 16 ls ∧ scanG (jnL f ls) 16 f = 16 + sizeF ls := by
  obtain ⟨h0, h1, h2, h3, h4⟩ := jn_ok h
  have e : jnL f ls = hdrL f.toNat ++ joinF f ls := by unfold jnL; rw [if_pos h]
  have hl := hdr_len f.toNat
  obtain ⟨g1, g2⟩ := hd_made f.toNat (joinF f ls) (by omega)
  have hw := scanL_whole ls (hdrL f.toNat) f h4
  rw [hl] at hw
  rw [e]
  exact ⟨rfl, by rw [List.length_append, hl, join_len], g1, by rw [g2]; omega, hw.1, hw.2⟩

end Go.Proofs.YtaonjbkkgeiniaaGreatDoor

/- What is found in a segment of payloads; what is found stands there. -/
namespace Go.Proofs.YtaonjbkkgeiniaaGreatDoor
open Go.RowKit

theorem places_get (ls : List (List UInt8)) : ∀ (a i : Nat), i < ls.length → (placesF a ls)[i]? = some (a + sizeF (ls.take i)) := by
  induction ls with
  | nil => intro a i h; cases h
  | cons l ls ih =>
    intro a i h
    cases i with
    | zero => rfl
    | succ i =>
      show (placesF (a + 16 + l.length) ls)[i]? = _
      rw [ih _ i (by rw [List.length_cons] at h; omega)]
      show some _ = some (a + (16 + l.length + sizeF (ls.take i)))
      congr 1; omega
theorem places_getD (ls : List (List UInt8)) (a i : Nat) (h : i < ls.length) : (placesF a ls).getD i 0 = a + sizeF (ls.take i) := by
  rw [List.getD_eq_getElem?_getD, places_get ls a i h]; rfl
theorem places_snoc (ls : List (List UInt8)) (a k : Nat) (h : k < ls.length) : placesF a (ls.take (k + 1)) = placesF a (ls.take k) ++ [a + sizeF (ls.take k)] := by
  apply List.ext_getElem?
  intro j
  have hl : (ls.take (k + 1)).length = k + 1 := by rw [List.length_take]; omega
  have hl2 : (ls.take k).length = k := by rw [List.length_take]; omega
  have hp : (placesF a (ls.take k)).length = k := by rw [places_len, hl2]
  by_cases h1 : j < k
  · rw [List.getElem?_append_left (by omega), places_get _ a j (by omega), places_get _ a j (by omega), List.take_take, List.take_take, Nat.min_eq_left (by omega), Nat.min_eq_left (by omega)]
  · by_cases h2 : j = k
    · subst h2
      rw [places_get _ a j (by omega), List.getElem?_append_right (by omega), hp, Nat.sub_self, List.take_take, Nat.min_eq_left (by omega)]; rfl
    · rw [List.getElem?_eq_none (by rw [places_len, hl]; omega), List.getElem?_eq_none (by rw [List.length_append, hp, List.length_singleton]; omega)]

/-- the frame at a place of a segment of payloads -/
theorem join_at (ls : List (List UInt8)) (p : List UInt8) (f : Int) (i : Nat) (hi : i < ls.length) (h : okF f ls) :
    fE (p ++ joinF f ls) (p.length + sizeF (ls.take i)) = 0 ∧ (fQ (p ++ joinF f ls) (p.length + sizeF (ls.take i)) : Int) = f + i ∧ fN (p ++ joinF f ls) (p.length + sizeF (ls.take i)) = ls[i].length ∧
      fNext (p ++ joinF f ls) (p.length + sizeF (ls.take i)) = p.length + sizeF (ls.take (i + 1)) ∧ sl (p ++ joinF f ls) (p.length + sizeF (ls.take i) + 16) ls[i].length = ls[i] := by
  have e : ls = ls.take i ++ ls[i] :: ls.drop (i + 1) := by rw [← List.drop_eq_getElem_cons hi, List.take_append_drop]
  have hj : joinF f ls = joinF f (ls.take i) ++ (frm (f + i).toNat ls[i] ++ joinF (f + i + 1) (ls.drop (i + 1))) := by
    conv => lhs; rw [e]
    rw [join_app, List.length_take, Nat.min_eq_left (by omega)]; rfl
  have hk : 0 ≤ f + i ∧ f + i < 1048576 ∧ 1 ≤ ls[i].length ∧ ls[i].length ≤ 4096 := by
    have h' := h
    rw [e, ok_app, List.length_take, Nat.min_eq_left (by omega)] at h'
    exact h'.2.1
  have hp : (p ++ joinF f (ls.take i)).length = p.length + sizeF (ls.take i) := by rw [List.length_append, join_len]
  obtain ⟨g1, g2, g3, g4⟩ := read_made (p ++ joinF f (ls.take i)) ls[i] (joinF (f + i + 1) (ls.drop (i + 1))) (f + i).toNat (by omega) hk.2.2.1 hk.2.2.2
  rw [hp, show p ++ joinF f (ls.take i) ++ (frm (f + i).toNat ls[i] ++ joinF (f + i + 1) (ls.drop (i + 1))) = p ++ joinF f ls by rw [hj, List.append_assoc]] at g1 g2 g3 g4
  refine ⟨g1, by rw [g3]; omega, g2, ?_, g4⟩
  unfold fNext
  rw [g2, size_take_succ ls i hi]
  omega

/-- what is found of a segment of payloads -/
theorem get_join (ls : List (List UInt8)) (p : List UInt8) (f : Int) (h : okF f ls) : ∀ (k i q : Nat), i + k < ls.length → (q : Int) = f + i →
    getE (p ++ joinF f ls) k (p.length + sizeF (ls.take i)) q = 0 ∧ getA (p ++ joinF f ls) k (p.length + sizeF (ls.take i)) = p.length + sizeF (ls.take (i + k)) := by
  intro k
  induction k with
  | zero =>
    intro i q hi hq
    obtain ⟨g1, g2, g3, g4, g5⟩ := join_at ls p f i (by omega) h
    have hle : p.length + sizeF (ls.take i) ≤ (p ++ joinF f ls).length := by rw [List.length_append, join_len]; have := size_take_le ls i; omega
    have hm : min (p.length + sizeF (ls.take i)) (p ++ joinF f ls).length = p.length + sizeF (ls.take i) := Nat.min_eq_left hle
    refine ⟨?_, hm⟩
    unfold getE
    rw [hm, if_neg (by omega), if_neg (by omega)]
  | succ k ih =>
    intro i q hi hq
    obtain ⟨g1, g2, g3, g4, g5⟩ := join_at ls p f i (by omega) h
    have hle : p.length + sizeF (ls.take i) ≤ (p ++ joinF f ls).length := by rw [List.length_append, join_len]; have := size_take_le ls i; omega
    have hm : min (p.length + sizeF (ls.take i)) (p ++ joinF f ls).length = p.length + sizeF (ls.take i) := Nat.min_eq_left hle
    obtain ⟨e1, e2⟩ := ih (i + 1) (q + 1) (by omega) (by omega)
    rw [show i + 1 + k = i + (k + 1) by omega] at e2
    refine ⟨?_, ?_⟩
    · unfold getE
      rw [hm, if_neg (by omega), if_neg (by omega), g4]
      exact e1
    · unfold getA
      rw [hm, g4]
      exact e2
theorem getP_join (ls : List (List UInt8)) (p : List UInt8) (f : Int) (h : okF f ls) (k i q : Nat) (hi : i + k < ls.length) (hq : (q : Int) = f + i) :
    getP (p ++ joinF f ls) k (p.length + sizeF (ls.take i)) q = ls[i + k] := by
  obtain ⟨e1, e2⟩ := get_join ls p f h k i q hi hq
  obtain ⟨g1, g2, g3, g4, g5⟩ := join_at ls p f (i + k) hi h
  unfold getP
  rw [if_pos e1, e2, g3, g5]

/-- what is found stands there -/
theorem get_stands (l : List UInt8) : ∀ (k a q : Nat), getE l k a q = 0 → fE l (getA l k a) = 0 ∧ fQ l (getA l k a) = q + k := by
  intro k
  induction k with
  | zero =>
    intro a q h
    unfold getE at h
    by_cases h1 : fE l (min a l.length) = 0
    · rw [if_neg (not_not_intro h1)] at h
      by_cases h2 : fQ l (min a l.length) = q
      · exact ⟨h1, h2⟩
      · rw [if_pos h2] at h; cases h
    · rw [if_pos h1] at h; exact absurd h h1
  | succ k ih =>
    intro a q h
    unfold getE at h
    by_cases h1 : fE l (min a l.length) = 0
    · rw [if_neg (not_not_intro h1)] at h
      by_cases h2 : fQ l (min a l.length) = q
      · rw [if_neg (not_not_intro h2)] at h
        obtain ⟨e1, e2⟩ := ih _ _ h
        exact ⟨e1, by show fQ l (getA l k _) = _; rw [e2]; omega⟩
      · rw [if_pos h2] at h; cases h
    · rw [if_pos h1] at h; exact absurd h h1

end Go.Proofs.YtaonjbkkgeiniaaGreatDoor

