/- The reference's ways over and back over a byte, bit by bit, in plain terms. -/
import Derived.Test.YtdcfefhlhphdiaaTimesL
import Derived.Test.YtdcfefhlhphdiaaCrcBL
namespace Go.Proofs.Ytdcfefhlhphdiaa

def bitw (v : Bool) : BitVec 32 := if v then 1#32 else 0#32
def sh (c : BitVec 32) (v : Bool) : BitVec 32 := if c.getLsbD 0 != v then c >>> 1 ^^^ poly else c >>> 1
def bit (b : UInt8) (i : Nat) : Bool := (ext b).getLsbD i
def ovTo (c : BitVec 32) (b : UInt8) : Nat → BitVec 32
  | 0 => c
  | i + 1 => sh (ovTo c b i) (bit b i)
theorem bitw_bit0 (v : Bool) : (bitw v).getLsbD 0 = v := by cases v <;> decide
theorem bitw_shr (v : Bool) : bitw v >>> 1 = 0#32 := by cases v <;> decide
theorem sh_step (c : BitVec 32) (v : Bool) : sh c v = step (c ^^^ bitw v) := by
  unfold sh step
  rw [BitVec.getLsbD_xor, bitw_bit0, BitVec.ushiftRight_xor_distrib, bitw_shr, BitVec.xor_zero]
theorem ovTo_eq (c : BitVec 32) (b : UInt8) : ∀ i, i ≤ 32 → ovTo c b i = up i (c ^^^ lowTo (ext b) i) := by
  intro i
  induction i with
  | zero => intro _; show c = c ^^^ 0#32; rw [BitVec.xor_zero]
  | succ i ih =>
    intro hi
    show sh (ovTo c b i) (bit b i) = _
    rw [ih (by omega), sh_step, up_succ]
    congr 1
    rw [show lowTo (ext b) (i + 1) = if (ext b).getLsbD i then lowTo (ext b) i ^^^ 1#32 <<< i else lowTo (ext b) i from rfl]
    unfold bitw bit
    cases (ext b).getLsbD i
    · simp
    · simp only [if_true]
      rw [← BitVec.xor_assoc, up_xor i _ (1#32 <<< i), shl_up1 i (by omega)]
theorem low_ext (b : UInt8) : lowTo (ext b) 8 = ext b := by
  apply BitVec.eq_of_getLsbD_eq
  intro j hj
  rw [low_bit _ 8 j (by omega) hj]
  by_cases h : j < 8
  · simp [h]
  · rw [ext_bit b j (by omega)]; simp
theorem ovTo_upd (c : BitVec 32) (b : UInt8) : ovTo c b 8 = upd c b := by
  rw [ovTo_eq c b 8 (by omega), low_ext]; rfl

/-- back over a bit -/
def shd (c : BitVec 32) (v : Bool) : BitVec 32 := down c ^^^ bitw v
def bdTo (c : BitVec 32) (b : UInt8) : Nat → BitVec 32
  | 0 => c
  | j + 1 => shd (bdTo c b j) (bit b (7 - j))
theorem sh_shd (c : BitVec 32) (v : Bool) : sh (shd c v) v = c := by
  rw [sh_step]; unfold shd
  rw [xor_xor_cancel, step_down]
theorem ov_bd (c : BitVec 32) (b : UInt8) : ∀ i, i ≤ 8 → ovTo (bdTo c b 8) b i = bdTo c b (8 - i) := by
  intro i
  induction i with
  | zero => intro _; rfl
  | succ i ih =>
    intro hi
    show sh (ovTo (bdTo c b 8) b i) (bit b i) = _
    rw [ih (by omega), show 8 - i = (8 - (i + 1)) + 1 from by omega]
    show sh (shd (bdTo c b (8 - (i + 1))) (bit b (7 - (8 - (i + 1))))) (bit b i) = _
    rw [show 7 - (8 - (i + 1)) = i from by omega, sh_shd]
theorem bdTo_eq (c : BitVec 32) (b : UInt8) : bdTo c b 8 = dn 8 c ^^^ ext b := by
  have h := ov_bd c b 8 (Nat.le_refl _)
  rw [ovTo_upd] at h
  have h2 : up 8 (bdTo c b 8 ^^^ ext b) = c := h
  have h3 := dn_up 8 (bdTo c b 8 ^^^ ext b)
  rw [h2] at h3
  rw [h3, xor_xor_cancel]
/-- as the reference spells it -/
theorem shd_eq (c : BitVec 32) (v : Bool) : shd c v = (if c.getLsbD 31 then c ^^^ poly else c) <<< 1 ||| bitw (c.getLsbD 31 != v) := by
  unfold shd down
  have h0 : ∀ (x : BitVec 32) (u : Bool), x <<< 1 ||| bitw u = x <<< 1 ^^^ bitw u := by
    intro x u
    apply BitVec.eq_of_getLsbD_eq
    intro i hi
    rw [BitVec.getLsbD_or, BitVec.getLsbD_xor, BitVec.getLsbD_shiftLeft]
    by_cases h : i < 1
    · simp [h]
    · have : (bitw u).getLsbD i = false := by
        unfold bitw
        cases u
        · simp
        · simp only [if_true]; rw [BitVec.getLsbD_ofNat, testBit1 i (by omega)]; simp
      rw [this]; simp
  have h1 : bitw true = 1#32 := rfl
  have h2 : bitw false = 0#32 := rfl
  cases c.getLsbD 31 <;> cases v
  · rw [h2]; simp [h2]
  · simp only [Bool.false_eq_true, if_false]; rw [h0]; rfl
  · simp only [if_true]; rw [h2, BitVec.xor_zero]; rfl
  · simp only [if_true]
    have := h0 (c ^^^ poly) true
    rw [h1] at this
    rw [this, h1, xor_xor_cancel]
    simp [h2]

end Go.Proofs.Ytdcfefhlhphdiaa
