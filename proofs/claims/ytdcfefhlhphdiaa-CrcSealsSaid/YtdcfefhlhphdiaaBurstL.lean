/- A burst, in plain terms: single bits turned, and what that does to the checksum. -/
import Derived.Test.YtdcfefhlhphdiaaBytes
import Derived.Test.YtdcfefhlhphdiaaCrcSealedW
namespace Go.Proofs.Ytdcfefhlhphdiaa

/-- the byte of one bit -/
def bit8 (k : Nat) : UInt8 := UInt8.ofNat (2 ^ k)
def flip (l : List UInt8) (q : Nat) : List UInt8 := l.set (q / 8) (x8 (nth l (q / 8)) (bit8 (q % 8)))
/-- the first i bits of a pattern turned, from a bit on -/
def burstTo (l : List UInt8) (p : BitVec 32) (f : Nat) : Nat → List UInt8
  | 0 => l
  | i + 1 => if p.getLsbD i then flip (burstTo l p f i) (f + i) else burstTo l p f i
def anyTo (p : BitVec 32) : Nat → Bool
  | 0 => false
  | i + 1 => p.getLsbD i || anyTo p i
/-- the pattern's first i bits -/
def lowTo (p : BitVec 32) : Nat → BitVec 32
  | 0 => 0#32
  | i + 1 => if p.getLsbD i then lowTo p i ^^^ 1#32 <<< i else lowTo p i

theorem length_flip (l : List UInt8) (q : Nat) : (flip l q).length = l.length := by unfold flip; simp
theorem length_burst (l : List UInt8) (p : BitVec 32) (f i : Nat) : (burstTo l p f i).length = l.length := by
  induction i with
  | zero => rfl
  | succ i ih => unfold burstTo; split <;> simp [length_flip, ih]

theorem shl_up1 (k : Nat) : k < 32 → up k (1#32 <<< k) = 1#32 := by
  intro h
  have : ∀ k, k < 32 → up k (1#32 <<< k) = 1#32 := by decide +kernel
  exact this k h
theorem ext_bit8 (k : Nat) (h : k < 8) : ext (bit8 k) = 1#32 <<< k := by
  have : ∀ k, k < 8 → ext (bit8 k) = 1#32 <<< k := by decide +kernel
  exact this k h
theorem up_bit8 (k : Nat) (h : k < 8) : up 8 (ext (bit8 k)) = up (8 - k) 1#32 := by
  rw [ext_bit8 k h, show (8 : Nat) = k + (8 - k) from by omega, up_add, shl_up1 k (by omega)]
  congr 1
  omega
theorem run_xor (l : List UInt8) : ∀ c d, run (c ^^^ d) l = run c l ^^^ up (8 * l.length) d := by
  induction l with
  | nil => intro c d; rfl
  | cons b l ih =>
    intro c d
    show run (upd (c ^^^ d) b) l = run (upd c b) l ^^^ up (8 * (l.length + 1)) d
    have e : upd (c ^^^ d) b = upd c b ^^^ up 8 d := by
      unfold upd
      rw [show c ^^^ d ^^^ ext b = (c ^^^ ext b) ^^^ d from by ac_rfl, up_xor]
    rw [e, ih, ← up_add]
    congr 2
    omega
theorem flip_cons_lt (b : UInt8) (l : List UInt8) (q : Nat) (h : q < 8) : flip (b :: l) q = x8 b (bit8 q) :: l := by
  unfold flip
  rw [Nat.div_eq_of_lt h, Nat.mod_eq_of_lt h]; rfl
theorem flip_cons_ge (b : UInt8) (l : List UInt8) (q : Nat) (h : 8 ≤ q) : flip (b :: l) q = b :: flip l (q - 8) := by
  unfold flip
  rw [show q / 8 = (q - 8) / 8 + 1 from by omega, show q % 8 = (q - 8) % 8 from by omega]; rfl
theorem run_flip (l : List UInt8) : ∀ c q, q < 8 * l.length → run c (flip l q) = run c l ^^^ up (8 * l.length - q) 1#32 := by
  induction l with
  | nil => intro c q h; simp at h
  | cons b l ih =>
    intro c q h
    simp only [List.length_cons] at h
    by_cases hq : q < 8
    · rw [flip_cons_lt b l q hq]
      show run (upd c (x8 b (bit8 q))) l = run (upd c b) l ^^^ up (8 * (l.length + 1) - q) 1#32
      have e : upd c (x8 b (bit8 q)) = upd c b ^^^ up (8 - q) 1#32 := by
        unfold upd
        rw [ext_x8, ← BitVec.xor_assoc, up_xor, up_bit8 q hq]
      rw [e, run_xor, ← up_add]
      congr 2
      omega
    · rw [flip_cons_ge b l q (by omega)]
      show run (upd c b) (flip l (q - 8)) = run (upd c b) l ^^^ up (8 * (l.length + 1) - q) 1#32
      rw [ih _ _ (by omega)]
      congr 2
      omega
theorem run_burst (l : List UInt8) (p : BitVec 32) (f : Nat) (c : BitVec 32) : ∀ i, i ≤ 32 → f + i ≤ 8 * l.length →
    run c (burstTo l p f i) = run c l ^^^ up (8 * l.length - f) (lowTo p i) := by
  intro i
  induction i with
  | zero => intro _ _; show run c l = run c l ^^^ up _ 0#32; rw [up_zero, BitVec.xor_zero]
  | succ i ih =>
    intro h1 h2
    have ih' := ih (by omega) (by omega)
    unfold burstTo lowTo
    cases hp : p.getLsbD i
    · simp only [Bool.false_eq_true, if_false]; exact ih'
    · simp only [if_true]
      rw [run_flip _ _ _ (by rw [length_burst]; omega), ih', length_burst, up_xor]
      rw [show 8 * l.length - f = i + (8 * l.length - (f + i)) from by omega]
      rw [up_add i _ (1#32 <<< i), shl_up1 i (by omega), BitVec.xor_assoc]
theorem low_bit (p : BitVec 32) : ∀ i j, i ≤ 32 → j < 32 → (lowTo p i).getLsbD j = (decide (j < i) && p.getLsbD j) := by
  intro i
  induction i with
  | zero => intro j _ _; show (0#32).getLsbD j = _; simp
  | succ i ih =>
    intro j hi hj
    have ih' := ih j (by omega) hj
    have h1 : (1#32 <<< i).getLsbD j = decide (j = i) := by
      rw [BitVec.getLsbD_shiftLeft, BitVec.getLsbD_ofNat]
      rcases Nat.lt_trichotomy j i with h | h | h
      · simp [h, Nat.ne_of_lt h]
      · subst h; simp [hj]
      · rw [testBit1 (j - i) (by omega)]; simp [show ¬ j = i by omega]
    unfold lowTo
    cases hp : p.getLsbD i
    · simp only [Bool.false_eq_true, if_false]
      rw [ih']
      by_cases hji : j = i
      · subst hji; simp [hp]
      · simp [show (j < i) = (j < i + 1) from by simp; omega]
    · simp only [if_true]
      rw [BitVec.getLsbD_xor, ih', h1]
      by_cases hji : j = i
      · subst hji; simp [hp]
      · simp [hji, show (j < i) = (j < i + 1) from by simp; omega]
theorem any_iff (p : BitVec 32) (i : Nat) : anyTo p i = true ↔ ∃ j, j < i ∧ p.getLsbD j = true := by
  induction i with
  | zero => simp [anyTo]
  | succ i ih =>
    unfold anyTo
    rw [Bool.or_eq_true, ih]
    constructor
    · rintro (h | ⟨j, h1, h2⟩)
      · exact ⟨i, by omega, h⟩
      · exact ⟨j, by omega, h2⟩
    · rintro ⟨j, h1, h2⟩
      by_cases e : j = i
      · subst e; exact Or.inl h2
      · exact Or.inr ⟨j, by omega, h2⟩
theorem low_zero (p : BitVec 32) (i : Nat) (hi : i ≤ 32) : lowTo p i = 0#32 ↔ anyTo p i = false := by
  constructor
  · intro h
    cases ha : anyTo p i
    · rfl
    · obtain ⟨j, h1, h2⟩ := (any_iff p i).1 ha
      have := low_bit p i j hi (by omega)
      rw [h] at this
      simp [h1, h2] at this
  · intro h
    apply BitVec.eq_of_getLsbD_eq
    intro j hj
    rw [low_bit p i j hi hj]
    by_cases hji : j < i
    · cases hp : p.getLsbD j
      · simp
      · have := (any_iff p i).2 ⟨j, hji, hp⟩
        rw [h] at this
        cases this
    · simp [hji]
/-- THE LAW: the checksum is the same just where no bit was turned -/
theorem crc_burst (l : List UInt8) (p : BitVec 32) (f i : Nat) (hi : i ≤ 32) (h : f + i ≤ 8 * l.length) : crc (burstTo l p f i) = crc l ↔ anyTo p i = false := by
  rw [← low_zero p i hi]
  unfold crc add nt
  rw [run_burst l p f _ i hi h]
  generalize run (~~~ 0#32) l = x
  constructor
  · intro e
    have e' : x ^^^ up (8 * l.length - f) (lowTo p i) = x := by
      have := congrArg (fun z => ~~~ z) e
      simpa using this
    have e2 : up (8 * l.length - f) (lowTo p i) = 0#32 := by
      have := congrArg (fun z => x ^^^ z) e'
      simp only [← BitVec.xor_assoc, BitVec.xor_self, BitVec.zero_xor] at this
      exact this
    exact up_inj _ (e2.trans (up_zero _).symm)
  · intro e
    rw [e, up_zero, BitVec.xor_zero]

end Go.Proofs.Ytdcfefhlhphdiaa
