/- A burst in a header: what bits it turns, and that the header is none. -/
import Derived.Test.YtaonjbkkgeiniaaGreatDoorSgBy
import Derived.Test.YtaonjbkkgeiniaaGreatDoorSgR4
namespace Go.Proofs.YtaonjbkkgeiniaaGreatDoor
open Go.RowKit

def x8 (x y : UInt8) : UInt8 := x ^^^ y
theorem ext_x8 (x y : UInt8) : ext (x8 x y) = ext x ^^^ ext y := by
  apply BitVec.eq_of_toNat_eq
  have hx := b8lt x
  have hy := b8lt y
  have hz : (x8 x y).toNat < 256 := b8lt _
  unfold ext
  rw [BitVec.toNat_xor, BitVec.toNat_ofNat, BitVec.toNat_ofNat, BitVec.toNat_ofNat, Nat.mod_eq_of_lt (a := x.toNat) (by omega), Nat.mod_eq_of_lt (a := y.toNat) (by omega), Nat.mod_eq_of_lt (by omega)]
  unfold x8
  rw [UInt8.toNat_xor]
theorem crc_seal (l : List UInt8) : crc (sealL l) = 0x2144DF1C#32 := by
  unfold sealL
  rw [show crc (l ++ four (crc l)) = add (add 0#32 l) (four (crc l)) from by unfold crc; rw [add_append]]
  show nt (run (nt (crc l)) (four (crc l))) = _
  rw [run_four]
  have : nt (crc l) ^^^ crc l = BitVec.allOnes 32 := by
    unfold nt
    apply BitVec.eq_of_getLsbD_eq
    intro i hi
    rw [BitVec.getLsbD_xor, BitVec.getLsbD_not, BitVec.getLsbD_allOnes]
    cases (crc l).getLsbD i <;> simp [hi]
  rw [this]
  decide +kernel




/-- the byte of one bit -/
def bit8 (k : Nat) : UInt8 := UInt8.ofNat (2 ^ k)
def flip (l : List UInt8) (q : Nat) : List UInt8 := l.set (q / 8) (x8 (nth l (q / 8)) (bit8 (q % 8)))
/-- the first i bits of a pattern turned, from a bit on -/
def burstTo (l : List UInt8) (p : BitVec 32) (f : Nat) : Nat → List UInt8
  | 0 => l
  | i + 1 => if p.getLsbD i then flip (burstTo l p f i) (f + i) else burstTo l p f i
def anyTo (p : BitVec 32) : Nat → Bool
  | 0 => false
  | i + 1 => p.getLsbD i || anyTo p i
/-- the pattern's first i bits -/
def lowTo (p : BitVec 32) : Nat → BitVec 32
  | 0 => 0#32
  | i + 1 => if p.getLsbD i then lowTo p i ^^^ 1#32 <<< i else lowTo p i

theorem length_flip (l : List UInt8) (q : Nat) : (flip l q).length = l.length := by unfold flip; simp
theorem length_burst (l : List UInt8) (p : BitVec 32) (f i : Nat) : (burstTo l p f i).length = l.length := by
  induction i with
  | zero => rfl
  | succ i ih => unfold burstTo; split <;> simp [length_flip, ih]

theorem shl_up1 (k : Nat) : k < 32 → up k (1#32 <<< k) = 1#32 := by
  intro h
  have : ∀ k, k < 32 → up k (1#32 <<< k) = 1#32 := by decide +kernel
  exact this k h
theorem ext_bit8 (k : Nat) (h : k < 8) : ext (bit8 k) = 1#32 <<< k := by
  have : ∀ k, k < 8 → ext (bit8 k) = 1#32 <<< k := by decide +kernel
  exact this k h
theorem up_bit8 (k : Nat) (h : k < 8) : up 8 (ext (bit8 k)) = up (8 - k) 1#32 := by
  rw [ext_bit8 k h, show (8 : Nat) = k + (8 - k) from by omega, up_add, shl_up1 k (by omega)]
  congr 1
  omega
theorem run_xor (l : List UInt8) : ∀ c d, run (c ^^^ d) l = run c l ^^^ up (8 * l.length) d := by
  induction l with
  | nil => intro c d; rfl
  | cons b l ih =>
    intro c d
    show run (upd (c ^^^ d) b) l = run (upd c b) l ^^^ up (8 * (l.length + 1)) d
    have e : upd (c ^^^ d) b = upd c b ^^^ up 8 d := by
      unfold upd
      rw [show c ^^^ d ^^^ ext b = (c ^^^ ext b) ^^^ d from by ac_rfl, up_xor]
    rw [e, ih, ← up_add]
    congr 2
    omega
theorem flip_cons_lt (b : UInt8) (l : List UInt8) (q : Nat) (h : q < 8) : flip (b :: l) q = x8 b (bit8 q) :: l := by
  unfold flip
  rw [Nat.div_eq_of_lt h, Nat.mod_eq_of_lt h]; rfl
theorem flip_cons_ge (b : UInt8) (l : List UInt8) (q : Nat) (h : 8 ≤ q) : flip (b :: l) q = b :: flip l (q - 8) := by
  unfold flip
  rw [show q / 8 = (q - 8) / 8 + 1 from by omega, show q % 8 = (q - 8) % 8 from by omega]; rfl
theorem run_flip (l : List UInt8) : ∀ c q, q < 8 * l.length → run c (flip l q) = run c l ^^^ up (8 * l.length - q) 1#32 := by
  induction l with
  | nil => intro c q h; simp at h
  | cons b l ih =>
    intro c q h
    simp only [List.length_cons] at h
    by_cases hq : q < 8
    · rw [flip_cons_lt b l q hq]
      show run (upd c (x8 b (bit8 q))) l = run (upd c b) l ^^^ up (8 * (l.length + 1) - q) 1#32
      have e : upd c (x8 b (bit8 q)) = upd c b ^^^ up (8 - q) 1#32 := by
        unfold upd
        rw [ext_x8, ← BitVec.xor_assoc, up_xor, up_bit8 q hq]
      rw [e, run_xor, ← up_add]
      congr 2
      omega
    · rw [flip_cons_ge b l q (by omega)]
      show run (upd c b) (flip l (q - 8)) = run (upd c b) l ^^^ up (8 * (l.length + 1) - q) 1#32
      rw [ih _ _ (by omega)]
      congr 2
      omega
theorem run_burst (l : List UInt8) (p : BitVec 32) (f : Nat) (c : BitVec 32) : ∀ i, i ≤ 32 → f + i ≤ 8 * l.length →
    run c (burstTo l p f i) = run c l ^^^ up (8 * l.length - f) (lowTo p i) := by
  intro i
  induction i with
  | zero => intro _ _; show run c l = run c l ^^^ up _ 0#32; rw [up_zero, BitVec.xor_zero]
  | succ i ih =>
    intro h1 h2
    have ih' := ih (by omega) (by omega)
    unfold burstTo lowTo
    cases hp : p.getLsbD i
    · simp only [Bool.false_eq_true, if_false]; exact ih'
    · simp only [if_true]
      rw [run_flip _ _ _ (by rw [length_burst]; omega), ih', length_burst, up_xor]
      rw [show 8 * l.length - f = i + (8 * l.length - (f + i)) from by omega]
      rw [up_add i _ (1#32 <<< i), shl_up1 i (by omega), BitVec.xor_assoc]
theorem low_bit (p : BitVec 32) : ∀ i j, i ≤ 32 → j < 32 → (lowTo p i).getLsbD j = (decide (j < i) && p.getLsbD j) := by
  intro i
  induction i with
  | zero => intro j _ _; show (0#32).getLsbD j = _; simp
  | succ i ih =>
    intro j hi hj
    have ih' := ih j (by omega) hj
    have h1 : (1#32 <<< i).getLsbD j = decide (j = i) := by
      rw [BitVec.getLsbD_shiftLeft, BitVec.getLsbD_ofNat]
      rcases Nat.lt_trichotomy j i with h | h | h
      · simp [h, Nat.ne_of_lt h]
      · subst h; simp [hj]
      · rw [testBit1 (j - i) (by omega)]; simp [show ¬ j = i by omega]
    unfold lowTo
    cases hp : p.getLsbD i
    · simp only [Bool.false_eq_true, if_false]
      rw [ih']
      by_cases hji : j = i
      · subst hji; simp [hp]
      · simp [show (j < i) = (j < i + 1) from by simp; omega]
    · simp only [if_true]
      rw [BitVec.getLsbD_xor, ih', h1]
      by_cases hji : j = i
      · subst hji; simp [hp]
      · simp [hji, show (j < i) = (j < i + 1) from by simp; omega]
theorem any_iff (p : BitVec 32) (i : Nat) : anyTo p i = true ↔ ∃ j, j < i ∧ p.getLsbD j = true := by
  induction i with
  | zero => simp [anyTo]
  | succ i ih =>
    unfold anyTo
    rw [Bool.or_eq_true, ih]
    constructor
    · rintro (h | ⟨j, h1, h2⟩)
      · exact ⟨i, by omega, h⟩
      · exact ⟨j, by omega, h2⟩
    · rintro ⟨j, h1, h2⟩
      by_cases e : j = i
      · subst e; exact Or.inl h2
      · exact Or.inr ⟨j, by omega, h2⟩
theorem low_zero (p : BitVec 32) (i : Nat) (hi : i ≤ 32) : lowTo p i = 0#32 ↔ anyTo p i = false := by
  constructor
  · intro h
    cases ha : anyTo p i
    · rfl
    · obtain ⟨j, h1, h2⟩ := (any_iff p i).1 ha
      have := low_bit p i j hi (by omega)
      rw [h] at this
      simp [h1, h2] at this
  · intro h
    apply BitVec.eq_of_getLsbD_eq
    intro j hj
    rw [low_bit p i j hi hj]
    by_cases hji : j < i
    · cases hp : p.getLsbD j
      · simp
      · have := (any_iff p i).2 ⟨j, hji, hp⟩
        rw [h] at this
        cases this
    · simp [hji]
/-- THE LAW: the checksum is the same just where no bit was turned -/
theorem crc_burst (l : List UInt8) (p : BitVec 32) (f i : Nat) (hi : i ≤ 32) (h : f + i ≤ 8 * l.length) : crc (burstTo l p f i) = crc l ↔ anyTo p i = false := by
  rw [← low_zero p i hi]
  unfold crc add nt
  rw [run_burst l p f _ i hi h]
  generalize run (~~~ 0#32) l = x
  constructor
  · intro e
    have e' : x ^^^ up (8 * l.length - f) (lowTo p i) = x := by
      have := congrArg (fun z => ~~~ z) e
      simpa using this
    have e2 : up (8 * l.length - f) (lowTo p i) = 0#32 := by
      have := congrArg (fun z => x ^^^ z) e'
      simp only [← BitVec.xor_assoc, BitVec.xor_self, BitVec.zero_xor] at this
      exact this
    exact up_inj _ (e2.trans (up_zero _).symm)
  · intro e
    rw [e, up_zero, BitVec.xor_zero]


@[go_sem] theorem gx_x8 (x y : UInt8) : bits .xor .u8 (x.toNat : Int) (y.toNat : Int) = ((x8 x y).toNat : Int) := by
  rw [u8_xor_nat _ _ (b8lt x) (b8lt y)]; unfold x8; rw [UInt8.toNat_xor]
theorem from_lt (a : Int) (n : Nat) (h0 : 0 < n) (hn : n ≤ 1000000000) : ∃ f : Nat, wrap64 ((IntKind.u64.wrap a).tmod (8 * (n : Int))) = f ∧ f < 8 * n := by
  have h1 : 0 ≤ IntKind.u64.wrap a := by rw [IntKind.wrap_u64]; omega
  have h2 : (IntKind.u64.wrap a).tmod (8 * (n : Int)) = IntKind.u64.wrap a % (8 * (n : Int)) := Int.tmod_eq_emod_of_nonneg h1
  have h3 : 0 ≤ IntKind.u64.wrap a % (8 * (n : Int)) := Int.emod_nonneg _ (by omega)
  have h4 : IntKind.u64.wrap a % (8 * (n : Int)) < 8 * (n : Int) := Int.emod_lt_of_pos _ (by omega)
  rw [h2]
  generalize IntKind.u64.wrap a % (8 * (n : Int)) = x at *
  refine ⟨x.toNat, ?_, by omega⟩
  unfold wrap64
  omega

theorem bit_at (p : BitVec 32) (i : Nat) : bits .and .u32 ((p.toNat : Int) / 2 ^ i) 1 = if p.getLsbD i then 1 else 0 := by
  have h := g_shr p i
  have e : ((2 ^ i : Nat) : Int) = (2 : Int) ^ i := by simp
  rw [e] at h
  rw [h, and1, BitVec.getLsbD_ushiftRight, Nat.add_zero]
theorem bit_true (p : BitVec 32) (i : Nat) (h : p.getLsbD i = true) : (bits .and .u32 ((p.toNat : Int) / 2 ^ i) 1 == 1) = true := by
  rw [bit_at, h]; rfl
theorem bit_false (p : BitVec 32) (i : Nat) (h : p.getLsbD i = false) : (bits .and .u32 ((p.toNat : Int) / 2 ^ i) 1 == 1) = false := by
  rw [bit_at, h]; rfl

theorem bit8_val (k : Nat) : (2 : Int) ^ k % 256 = ((bit8 k).toNat : Int) := by
  unfold bit8; rw [UInt8.toNat_ofNat']
  rw [Int.natCast_emod, Int.natCast_pow]; rfl


theorem burst_same (l : List UInt8) (p : BitVec 32) (f : Nat) : ∀ i, anyTo p i = false → burstTo l p f i = l
  | 0, _ => rfl
  | i + 1, h => by
    have h' : (p.getLsbD i || anyTo p i) = false := h
    rw [Bool.or_eq_false_iff] at h'
    show (if p.getLsbD i then _ else _) = l
    rw [h'.1]
    exact burst_same l p f i h'.2
/-- a header with a burst is none -/
theorem burst_head (n : Nat) (p : BitVec 32) (f i : Nat) (hi : i ≤ 32) (h : f + i ≤ 128) (hne : burstTo (hdrL n) p f i ≠ hdrL n) (r : List UInt8) : hdE (burstTo (hdrL n) p f i ++ r) = 42 ∨ hdE (burstTo (hdrL n) p f i ++ r) = 4 := by
  have hl : (burstTo (hdrL n) p f i).length = 16 := by rw [length_burst, hdr_len]
  have hany : anyTo p i ≠ false := fun e => hne (burst_same _ _ _ _ e)
  have hc : crc (burstTo (hdrL n) p f i) ≠ crc (hdrL n) := fun e => hany ((crc_burst (hdrL n) p f i hi (by rw [hdr_len]; omega)).1 e)
  have hseal : isSealed (burstTo (hdrL n) p f i) = false := by
    cases hq : isSealed (burstTo (hdrL n) p f i) with
    | false => rfl
    | true =>
      exfalso
      refine hc ?_
      have h1 : sealL ((burstTo (hdrL n) p f i).take ((burstTo (hdrL n) p f i).length - 4)) = burstTo (hdrL n) p f i := by unfold isSealed at hq; simpa using hq
      rw [← h1, crc_seal]
      unfold hdrL
      rw [crc_seal]
  have ht : (burstTo (hdrL n) p f i ++ r).take 16 = burstTo (hdrL n) p f i := by rw [← hl, List.take_left]
  unfold hdE
  rw [if_neg (by rw [List.length_append, hl]; omega), ht, hseal]
  by_cases hm : (burstTo (hdrL n) p f i ++ r).take 4 ≠ magicL
  · right; rw [if_pos hm]
  · left; rw [if_neg hm, if_pos rfl]
end Go.Proofs.YtaonjbkkgeiniaaGreatDoor
