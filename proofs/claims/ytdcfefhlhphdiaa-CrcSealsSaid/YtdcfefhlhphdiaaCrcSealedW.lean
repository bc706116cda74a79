/- The walk over souklaw01.CrcSealed. -/
import Derived.Test.YtdcfefhlhphdiaaCrcBackW
namespace Go.Proofs.Ytdcfefhlhphdiaa
open Go.RowKit

theorem seal_to (s : ByteArray) (x : ByteArray) (w : World) (hs : s.size ≤ 1000000000) (h : bs (sealL s.data.toList) = x) :
    Calls Try.prog 15 #[.string s] w fun e w' => e = .returned (.string x) ∧ Below w.heap.size w w' := by
  subst h; exact seal_str s w hs

theorem take_seal (l : List UInt8) : (sealL l).take ((sealL l).length - 4) = l := by
  unfold sealL; simp [length_four]
theorem isSealed_seal (l : List UInt8) : isSealed (sealL l) = true := by
  unfold isSealed; rw [take_seal]; simp
theorem length_seal (l : List UInt8) : (sealL l).length = l.length + 4 := by unfold sealL; simp [length_four]
/-- the checksum of a number's own bytes -/
theorem ext_four (c : BitVec 32) : c = ext (byt c 0) ^^^ (ext (byt c 1)) <<< 8 ^^^ (ext (byt c 2)) <<< 16 ^^^ (ext (byt c 3)) <<< 24 := by
  have hb : ∀ k i, (ext (byt c k)).getLsbD i = (decide (i < 8) && c.getLsbD (8 * k + i)) := by
    intro k i
    unfold ext byt
    rw [BitVec.getLsbD_ofNat, UInt8.toNat_ofNat', show (256 : Nat) ^ k = 2 ^ (8 * k) from by rw [Nat.pow_mul], ← Nat.shiftRight_eq_div_pow, show (2 ^ 8 : Nat) = 2 ^ 8 from rfl, Nat.testBit_mod_two_pow, Nat.testBit_shiftRight, BitVec.testBit_toNat]
    by_cases h : i < 8
    · simp [h, show i < 32 by omega]
    · simp [h]
  apply BitVec.eq_of_getLsbD_eq
  intro i hi
  simp only [BitVec.getLsbD_xor, BitVec.getLsbD_shiftLeft, hb, hi, decide_true, Bool.true_and]
  rcases Nat.lt_or_ge i 8 with h | h
  · simp [h, show i < 16 by omega, show i < 24 by omega]
  rcases Nat.lt_or_ge i 16 with h2 | h2
  · simp [show ¬ i < 8 by omega, show i < 16 by omega, show i < 24 by omega, show i - 8 < 8 by omega, show 8 + (i - 8) = i by omega]
  rcases Nat.lt_or_ge i 24 with h3 | h3
  · simp [show ¬ i < 8 by omega, show ¬ i < 16 by omega, show i < 24 by omega, show ¬ i - 8 < 8 by omega, show i - 16 < 8 by omega, show 16 + (i - 16) = i by omega]
  · simp [show ¬ i < 8 by omega, show ¬ i < 16 by omega, show ¬ i < 24 by omega, show ¬ i - 8 < 8 by omega, show ¬ i - 16 < 8 by omega, show i - 24 < 8 by omega, show 24 + (i - 24) = i by omega]
theorem up_shl8 (b : UInt8) (k : Nat) (h : k ≤ 2) : up 8 ((ext b) <<< (8 * (k + 1))) = (ext b) <<< (8 * k) := by
  have hx := b8lt b
  have e : (ext b) <<< (8 * (k + 1)) = ((ext b) <<< (8 * k)) <<< 8 := by
    rw [← BitVec.shiftLeft_add]; rfl
  rw [e]
  refine shl_up 8 _ (by omega) ?_
  rw [BitVec.toNat_shiftLeft, ext_lt, Nat.shiftLeft_eq]
  have h1 : 2 ^ (8 * k) ≤ 2 ^ 16 := Nat.pow_le_pow_right (by omega) (by omega)
  have h2 : b.toNat * 2 ^ (8 * k) ≤ b.toNat * 2 ^ 16 := Nat.mul_le_mul_left _ h1
  rw [Nat.mod_eq_of_lt (by omega)]
  omega
theorem up32_split (c d e0 e1 e2 e3 : BitVec 32) (e : d = e0 ^^^ e1 <<< 8 ^^^ e2 <<< 16 ^^^ e3 <<< 24) (h1 : up 8 (e1 <<< 8) = e1) (h2 : up 8 (e2 <<< 16) = e2 <<< 8) (h2' : up 8 (e2 <<< 8) = e2)
    (h3 : up 8 (e3 <<< 24) = e3 <<< 16) (h3' : up 8 (e3 <<< 16) = e3 <<< 8) (h3'' : up 8 (e3 <<< 8) = e3) :
    up 8 (up 8 (up 8 (up 8 (c ^^^ e0) ^^^ e1) ^^^ e2) ^^^ e3) = up 32 (c ^^^ d) := by
  have e2' : up 32 (c ^^^ d) = up 8 (up 8 (up 8 (up 8 (c ^^^ d)))) := by rw [← up_add, ← up_add, ← up_add]
  rw [e2', e]
  generalize e1 <<< 8 = x1 at *
  generalize e2 <<< 16 = x2 at *
  generalize e2 <<< 8 = y2 at *
  generalize e3 <<< 24 = x3 at *
  generalize e3 <<< 16 = y3 at *
  generalize e3 <<< 8 = z3 at *
  have k1 : up 8 (c ^^^ (e0 ^^^ x1 ^^^ x2 ^^^ x3)) = up 8 (c ^^^ e0) ^^^ e1 ^^^ y2 ^^^ y3 := by
    rw [up_xor, up_xor, up_xor, up_xor, h1, h2, h3, up_xor]; ac_rfl
  have k2 : ∀ A : BitVec 32, up 8 (A ^^^ y2 ^^^ y3) = up 8 A ^^^ e2 ^^^ z3 := fun A => by rw [up_xor, up_xor, h2', h3']
  have k3 : ∀ A : BitVec 32, up 8 (A ^^^ z3) = up 8 A ^^^ e3 := fun A => by rw [up_xor, h3'']
  rw [k1, k2, k3]
/-- over a word's own four bytes: whatever it is, up 32 of what differs from it -/
theorem run_four (c d : BitVec 32) : run c (four d) = up 32 (c ^^^ d) := by
  show upd (upd (upd (upd c (byt d 0)) (byt d 1)) (byt d 2)) (byt d 3) = _
  unfold upd
  have h1 : up 8 (ext (byt d 1) <<< 8) = ext (byt d 1) <<< 0 := up_shl8 (byt d 1) 0 (by omega)
  have h2 : up 8 (ext (byt d 2) <<< 16) = ext (byt d 2) <<< 8 := up_shl8 (byt d 2) 1 (by omega)
  have h2' : up 8 (ext (byt d 2) <<< 8) = ext (byt d 2) <<< 0 := up_shl8 (byt d 2) 0 (by omega)
  have h3 : up 8 (ext (byt d 3) <<< 24) = ext (byt d 3) <<< 16 := up_shl8 (byt d 3) 2 (by omega)
  have h3' : up 8 (ext (byt d 3) <<< 16) = ext (byt d 3) <<< 8 := up_shl8 (byt d 3) 1 (by omega)
  have h3'' : up 8 (ext (byt d 3) <<< 8) = ext (byt d 3) <<< 0 := up_shl8 (byt d 3) 0 (by omega)
  rw [BitVec.shiftLeft_zero] at h1 h2' h3''
  exact up32_split c d _ _ _ _ (ext_four d) h1 h2 h2' h3 h3' h3''
theorem crc_seal (l : List UInt8) : crc (sealL l) = 0x2144DF1C#32 := by
  unfold sealL
  rw [show crc (l ++ four (crc l)) = add (add 0#32 l) (four (crc l)) from by unfold crc; rw [add_append]]
  show nt (run (nt (crc l)) (four (crc l))) = _
  rw [run_four]
  have : nt (crc l) ^^^ crc l = BitVec.allOnes 32 := by
    unfold nt
    apply BitVec.eq_of_getLsbD_eq
    intro i hi
    rw [BitVec.getLsbD_xor, BitVec.getLsbD_not, BitVec.getLsbD_allOnes]
    cases (crc l).getLsbD i <;> simp [hi]
  rw [this]
  decide +kernel

end Go.Proofs.Ytdcfefhlhphdiaa
