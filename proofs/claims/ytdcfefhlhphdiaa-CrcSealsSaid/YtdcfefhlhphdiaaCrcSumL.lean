/- The plain law of CrcSum: the checksum is affine. -/
import Derived.Test.YtdcfefhlhphdiaaCrcP
namespace Go.Proofs.Ytdcfefhlhphdiaa

def x8 (x y : UInt8) : UInt8 := x ^^^ y
theorem ext_x8 (x y : UInt8) : ext (x8 x y) = ext x ^^^ ext y := by
  apply BitVec.eq_of_toNat_eq
  have hx := b8lt x
  have hy := b8lt y
  have hz : (x8 x y).toNat < 256 := b8lt _
  unfold ext
  rw [BitVec.toNat_xor, BitVec.toNat_ofNat, BitVec.toNat_ofNat, BitVec.toNat_ofNat, Nat.mod_eq_of_lt (a := x.toNat) (by omega), Nat.mod_eq_of_lt (a := y.toNat) (by omega), Nat.mod_eq_of_lt (by omega)]
  unfold x8
  rw [UInt8.toNat_xor]
theorem upd_xor (c d : BitVec 32) (x y : UInt8) : upd (c ^^^ d) (x8 x y) = upd c x ^^^ upd d y := by
  unfold upd
  rw [ext_x8, ← up_xor]
  congr 1
  ac_rfl
theorem run_zip : ∀ (l m : List UInt8) (c d : BitVec 32), l.length = m.length → run (c ^^^ d) (List.zipWith x8 l m) = run c l ^^^ run d m := by
  intro l
  induction l with
  | nil => intro m c d h; cases m with | nil => rfl | cons _ _ => simp at h
  | cons x l ih =>
    intro m c d h
    cases m with
    | nil => simp at h
    | cons y m =>
      show run (upd (c ^^^ d) (x8 x y)) (List.zipWith x8 l m) = run (upd c x) l ^^^ run (upd d y) m
      rw [upd_xor, ih _ _ _ (by simpa using h)]
theorem nt_xor3 (a b c : BitVec 32) : xr (xr (nt a) (nt b)) (nt c) = nt (a ^^^ b ^^^ c) := by
  unfold xr nt
  apply BitVec.eq_of_getLsbD_eq
  intro i hi
  simp only [BitVec.getLsbD_xor, BitVec.getLsbD_not, hi, decide_true, Bool.true_and]
  cases a.getLsbD i <;> cases b.getLsbD i <;> cases c.getLsbD i <;> rfl
theorem crc_sum (l m n : List UInt8) (h1 : l.length = m.length) (h2 : m.length = n.length) :
    xr (xr (crc l) (crc m)) (crc n) = crc (List.zipWith x8 (List.zipWith x8 l m) n) := by
  unfold crc add
  rw [nt_xor3]
  congr 1
  rw [← run_zip _ _ _ _ h1, ← run_zip _ _ _ _ (by simp; omega)]
  congr 1

end Go.Proofs.Ytdcfefhlhphdiaa
