/- Products of polynomials over two, in plain terms; two checksums combined. -/
import Derived.Test.YtdcfefhlhphdiaaBurstL
namespace Go.Proofs.Ytdcfefhlhphdiaa

/-- 1, as a polynomial -/
def e31 : BitVec 32 := 0x80000000#32
def tm (a b : BitVec 32) : Nat → BitVec 32
  | 0 => 0#32
  | k + 1 => if a.getLsbD (31 - k) then xr (tm a b k) (up k b) else tm a b k
def times (a b : BitVec 32) : BitVec 32 := tm a b 32
def both (a b : BitVec 32) (n : Nat) : BitVec 32 := xr (up (8 * n) a) b

theorem low_all (c : BitVec 32) : lowTo c 32 = c := by
  apply BitVec.eq_of_getLsbD_eq
  intro i hi
  rw [low_bit c 32 i (by omega) hi]; simp [hi]
/-- two linear maps that agree at single bits are one -/
theorem lin_ext (F G : BitVec 32 → BitVec 32) (hF : ∀ a b, F (a ^^^ b) = F a ^^^ F b) (hG : ∀ a b, G (a ^^^ b) = G a ^^^ G b) (h : ∀ i, i < 32 → F (1#32 <<< i) = G (1#32 <<< i)) (c : BitVec 32) : F c = G c := by
  have z : ∀ H : BitVec 32 → BitVec 32, (∀ a b, H (a ^^^ b) = H a ^^^ H b) → H 0#32 = 0#32 := by
    intro H hH
    have := hH 0#32 0#32
    rw [BitVec.xor_self, BitVec.xor_self] at this
    exact this
  have : ∀ i, i ≤ 32 → F (lowTo c i) = G (lowTo c i) := by
    intro i
    induction i with
    | zero => intro _; show F 0#32 = G 0#32; rw [z F hF, z G hG]
    | succ i ih =>
      intro hi
      unfold lowTo
      cases c.getLsbD i
      · exact ih (by omega)
      · simp only [if_true]; rw [hF, hG, ih (by omega), h i (by omega)]
  have h32 := this 32 (Nat.le_refl _)
  rwa [low_all] at h32
theorem tm_xor_right (a b c : BitVec 32) (k : Nat) : tm a (b ^^^ c) k = tm a b k ^^^ tm a c k := by
  induction k with
  | zero => show 0#32 = 0#32 ^^^ 0#32; rw [BitVec.xor_self]
  | succ k ih =>
    unfold tm
    cases a.getLsbD (31 - k)
    · exact ih
    · simp only [if_true]; rw [ih, up_xor]; unfold xr; ac_rfl
theorem xor4 (a b c : BitVec 32) : a ^^^ c ^^^ (b ^^^ c) = a ^^^ b := by
  rw [show a ^^^ c ^^^ (b ^^^ c) = a ^^^ b ^^^ (c ^^^ c) from by ac_rfl]; simp
theorem tm_xor_left (a c b : BitVec 32) (k : Nat) : tm (a ^^^ c) b k = tm a b k ^^^ tm c b k := by
  induction k with
  | zero => show 0#32 = 0#32 ^^^ 0#32; rw [BitVec.xor_self]
  | succ k ih =>
    unfold tm
    rw [BitVec.getLsbD_xor, ih]
    unfold xr
    cases a.getLsbD (31 - k) <;> cases c.getLsbD (31 - k) <;> simp only [Bool.false_xor, Bool.true_xor, Bool.not_true, Bool.not_false, Bool.false_eq_true, if_true, if_false]
    · ac_rfl
    · ac_rfl
    · exact (xor4 _ _ _).symm
theorem tm_bit (i : Nat) (hi : i < 32) (b : BitVec 32) : ∀ k, k ≤ 32 → tm (1#32 <<< i) b k = if 31 - i < k then up (31 - i) b else 0#32 := by
  intro k
  induction k with
  | zero => intro _; rfl
  | succ k ih =>
    intro hk
    unfold tm
    have h1 : (1#32 <<< i).getLsbD (31 - k) = decide (31 - k = i) := by
      rw [BitVec.getLsbD_shiftLeft, BitVec.getLsbD_ofNat]
      rcases Nat.lt_trichotomy (31 - k) i with h | h | h
      · simp [h, Nat.ne_of_lt h]
      · rw [h]; simp [hi]
      · rw [testBit1 (31 - k - i) (by omega)]; simp [show ¬ 31 - k = i by omega]
    rw [h1, ih (by omega)]
    by_cases e : 31 - k = i
    · have : k = 31 - i := by omega
      subst this
      simp [e, xr]
    · rw [decide_eq_false e]
      simp only [Bool.false_eq_true, if_false]
      by_cases h2 : 31 - i < k
      · rw [if_pos h2, if_pos (by omega)]
      · rw [if_neg h2, if_neg (by omega)]
theorem times_bit (i : Nat) (hi : i < 32) (b : BitVec 32) : times (1#32 <<< i) b = up (31 - i) b := by
  unfold times
  rw [tm_bit i hi b 32 (by omega), if_pos (by omega)]
theorem times_poly (b : BitVec 32) : times poly b = up 32 b := by
  refine lin_ext (times poly) (up 32) (fun a c => tm_xor_right poly a c 32) (fun a c => up_xor 32 a c) ?_ b
  decide +kernel
theorem step_bit0 : step (1#32 <<< 0) = poly := by decide
theorem step_bit (i : Nat) (hi : i < 31) : step (1#32 <<< (i + 1)) = 1#32 <<< i := by
  have : ∀ i, i < 31 → step (1#32 <<< (i + 1)) = 1#32 <<< i := by decide +kernel
  exact this i hi
theorem times_step (a b : BitVec 32) : times (step a) b = step (times a b) := by
  refine lin_ext (fun a => times (step a) b) (fun a => step (times a b)) ?_ ?_ ?_ a
  · intro x y; show times (step (x ^^^ y)) b = _; rw [step_xor]; exact tm_xor_left _ _ _ _
  · intro x y; show step (times (x ^^^ y) b) = _; rw [show times (x ^^^ y) b = times x b ^^^ times y b from tm_xor_left _ _ _ _, step_xor]
  · intro i hi
    show times (step (1#32 <<< i)) b = step (times (1#32 <<< i) b)
    rw [times_bit i hi, ← up_succ]
    cases i with
    | zero => rw [step_bit0, times_poly]
    | succ i => rw [step_bit i (by omega), times_bit i (by omega)]; congr 1; omega
theorem times_up (n : Nat) : ∀ a b, times (up n a) b = up n (times a b) := by
  induction n with
  | zero => intro a b; rfl
  | succ n ih => intro a b; show times (up n (step a)) b = up n (step (times a b)); rw [ih, times_step]
theorem times_e (b : BitVec 32) : times e31 b = b := by
  have : e31 = 1#32 <<< 31 := by decide
  rw [this, times_bit 31 (by omega)]; rfl
theorem times_pow (n : Nat) (b : BitVec 32) : times (up n e31) b = up n b := by rw [times_up, times_e]
theorem add_both (a : BitVec 32) (l : List UInt8) : both a (crc l) l.length = add a l := by
  unfold both crc add
  have h : nt a = nt 0#32 ^^^ a := by
    unfold nt
    apply BitVec.eq_of_getLsbD_eq
    intro i hi
    simp only [BitVec.getLsbD_xor, BitVec.getLsbD_not, hi, decide_true, Bool.true_and, BitVec.getLsbD_zero]
    cases a.getLsbD i <;> rfl
  rw [h, run_xor]
  unfold xr nt
  generalize run (~~~ 0#32) l = x
  generalize up (8 * l.length) a = y
  apply BitVec.eq_of_getLsbD_eq
  intro i hi
  simp only [BitVec.getLsbD_xor, BitVec.getLsbD_not, hi, decide_true, Bool.true_and]
  cases x.getLsbD i <;> cases y.getLsbD i <;> rfl
theorem both_assoc (a b c : BitVec 32) (n m : Nat) : both (both a b n) c m = both a (both b c m) (n + m) := by
  unfold both xr
  rw [up_xor, ← up_add, show 8 * n + 8 * m = 8 * (n + m) from by omega]
  ac_rfl

end Go.Proofs.Ytdcfefhlhphdiaa
