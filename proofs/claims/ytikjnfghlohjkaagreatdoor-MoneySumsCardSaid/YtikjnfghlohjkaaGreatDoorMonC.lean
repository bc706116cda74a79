/- math/bits.Div64 by 10000; money.Mul, Fee. -/
import Derived.Test.YtikjnfghlohjkaaGreatDoorMonB
import Derived.BigQuiet
import Derived.BigRegion
import Derived.Deep.QuietTactic
namespace Go.Proofs.YtikjnfghlohjkaaGreatDoor
open Go.RowKit

set_option maxRecDepth 20000 in
set_option maxHeartbeats 1000000 in
theorem div_low (lo : Nat) (hlo : lo < 18446744073709551616) (w : World) :
    Calls Tryz.prog 24 #[.int .u64 0, .int .u64 lo, .int .u64 10000] w fun e w' => e = .returned (.tuple #[.int .u64 ((lo / 10000 : Nat) : Int), .int .u64 ((lo % 10000 : Nat) : Int)]) ∧ Below w.heap.size w w' := by
  go_enter Tryz.func24, Tryz.ntmps24
  go_wp2_with fail
  go_quiet (fail)
  go_wp2_with fail
  go_ret2
  exact ⟨by simp, (show Below w.heap.size w (w.drewN _) from ⟨(Below.refl w.heap.size w).os, (Below.refl w.heap.size w).tape, rfl, Nat.le_refl _, fun _ _ => rfl⟩)⟩
def mulE (p q : Int) : Int := if p < 0 ∨ q < 0 then 1 else if 4611686018427387904 < p * q then 41 else 0
def mulV (p q : Int) : Int := if p < 0 ∨ q < 0 then 0 else if 4611686018427387904 < p * q then 0 else p * q
set_option maxHeartbeats 1000000 in
theorem mul_any (p q : Int) (hp : -9223372036854775808 ≤ p ∧ p ≤ 9223372036854775807) (hq : -9223372036854775808 ≤ q ∧ q ≤ 9223372036854775807) (w : World) :
    Calls Tryz.prog 12 #[.int .i64 p, .int .i64 q] w fun e w' => e = .returned (.tuple #[.int .i64 (mulV p q), .int .i64 (mulE p q)]) ∧ w' = w := by
  by_cases hn : p < 0 ∨ q < 0
  · rw [show mulV p q = 0 from if_pos hn, show mulE p q = 1 from if_pos hn]
    by_cases h1 : p < 0
    · have d1 : decide (p < 0) = true := decide_eq_true h1
      go_enter Tryz.func12, Tryz.ntmps12
      go_wp2_with fail
      go_ret2
      exact ⟨rfl, rfl⟩
    · have d1 : decide (p < 0) = false := decide_eq_false h1
      have d2 : decide (q < 0) = true := decide_eq_true (by omega)
      go_enter Tryz.func12, Tryz.ntmps12
      go_wp2_with fail
      go_ret2
      exact ⟨rfl, rfl⟩
  · obtain ⟨a, rfl⟩ := Int.eq_ofNat_of_zero_le (show 0 ≤ p by omega)
    obtain ⟨b, rfl⟩ := Int.eq_ofNat_of_zero_le (show 0 ≤ q by omega)
    obtain ⟨m, hm⟩ : ∃ m : Nat, m = a * b := ⟨_, rfl⟩
    have em : (a : Int) * (b : Int) = (m : Int) := by rw [hm]; rfl
    have eE : mulE (a : Int) (b : Int) = if 4611686018427387904 < (m : Int) then 41 else 0 := by unfold mulE; rw [if_neg hn, em]
    have eV : mulV (a : Int) (b : Int) = if 4611686018427387904 < (m : Int) then 0 else (m : Int) := by unfold mulV; rw [if_neg hn, em]
    have hM := Tryz.bits_Mul64 a b (by omega) (by omega)
    rw [← hm] at hM
    obtain ⟨hi, eh⟩ : ∃ x, m / 18446744073709551616 = x := ⟨_, rfl⟩
    obtain ⟨lo, el⟩ : ∃ x, m % 18446744073709551616 = x := ⟨_, rfl⟩
    rw [eh, el] at hM
    have EH := Lib.hid eh
    have EL := Lib.hid el
    have hll : lo < 18446744073709551616 := by omega
    have d1 : decide ((a : Int) < 0) = false := decide_eq_false (by omega)
    have d2 : decide ((b : Int) < 0) = false := decide_eq_false (by omega)
    have HE := Lib.hid (show ∀ v e : Int, v = mulV a b → e = mulE a b → Ending.returned (.tuple #[.int .i64 v, .int .i64 e]) = .returned (.tuple #[.int .i64 (mulV a b), .int .i64 (mulE a b)]) from fun _ _ => told_eq)
    have EE := Lib.hid eE
    have EV := Lib.hid eV
    clear hn em eE eV hm eh el
    go_enter Tryz.func12, Tryz.ntmps12
    go_wp2_with fail
    refine (hM _).mono ?_
    rintro e w1 ⟨rfl, rfl⟩
    go_wp2_with fail
    all_goals
      go_ret2
      have e1 := EH.out
      have e2 := EL.out
      exact ⟨HE.out _ _ (by rw [EV.out]; split <;> omega) (by rw [EE.out]; split <;> omega), rfl⟩

def feeE (n b : Int) : Int := if n < 0 ∨ b < 0 ∨ 1000 < b then 1 else if 4611686018427387904 < n then 41 else 0
def feeV (n b : Int) : Int := if n < 0 ∨ b < 0 ∨ 1000 < b then 0 else if 4611686018427387904 < n then 0 else n * b / 10000
set_option maxHeartbeats 1000000 in
theorem fee_of (n b : Int) (hn : -9223372036854775808 ≤ n ∧ n ≤ 9223372036854775807) (hb : -9223372036854775808 ≤ b ∧ b ≤ 9223372036854775807) (w : World)
    (hdiv : ∀ m : Nat, (m : Int) = n * b → m / 18446744073709551616 < 10000 → ∀ w, Calls Tryz.prog 24 #[.int .u64 ((m / 18446744073709551616 : Nat) : Int), .int .u64 ((m % 18446744073709551616 : Nat) : Int), .int .u64 10000] w fun e w' => ∃ r, e = .returned (.tuple #[.int .u64 ((m / 10000 : Nat) : Int), .int .u64 r]) ∧ Below w.heap.size w w') :
    Calls Tryz.prog 13 #[.int .i64 n, .int .i64 b] w fun e w' => e = .returned (.tuple #[.int .i64 (feeV n b), .int .i64 (feeE n b)]) ∧ Below w.heap.size w w' := by
  by_cases h1 : n < 0
  · rw [show feeV n b = 0 from if_pos (.inl h1), show feeE n b = 1 from if_pos (.inl h1)]
    have d1 : decide (n < 0) = true := decide_eq_true h1
    go_enter Tryz.func13, Tryz.ntmps13
    go_wp2_with fail
    go_ret2
    exact ⟨rfl, Below.refl _ _⟩
  by_cases h2 : b < 0
  · rw [show feeV n b = 0 from if_pos (.inr (.inl h2)), show feeE n b = 1 from if_pos (.inr (.inl h2))]
    have d1 : decide (n < 0) = false := decide_eq_false h1
    have d2 : decide (b < 0) = true := decide_eq_true h2
    go_enter Tryz.func13, Tryz.ntmps13
    go_wp2_with fail
    go_ret2
    exact ⟨rfl, Below.refl _ _⟩
  have d1 : decide (n < 0) = false := decide_eq_false h1
  have d2 : decide (b < 0) = false := decide_eq_false h2
  by_cases h3 : 1000 < b
  · rw [show feeV n b = 0 from if_pos (.inr (.inr h3)), show feeE n b = 1 from if_pos (.inr (.inr h3))]
    have d3 : decide (1000 < b) = true := decide_eq_true h3
    go_enter Tryz.func13, Tryz.ntmps13
    go_wp2_with fail
    go_ret2
    exact ⟨rfl, Below.refl _ _⟩
  have d3 : decide (1000 < b) = false := decide_eq_false h3
  have hno : ¬ (n < 0 ∨ b < 0 ∨ 1000 < b) := by omega
  by_cases h4 : 4611686018427387904 < n
  · rw [show feeV n b = 0 by unfold feeV; rw [if_neg hno, if_pos h4], show feeE n b = 41 by unfold feeE; rw [if_neg hno, if_pos h4]]
    have d4 : decide (4611686018427387904 < n) = true := decide_eq_true h4
    clear hno
    go_enter Tryz.func13, Tryz.ntmps13
    go_wp2_with fail
    go_ret2
    exact ⟨rfl, Below.refl _ _⟩
  rw [show feeV n b = n * b / 10000 by unfold feeV; rw [if_neg hno, if_neg h4], show feeE n b = 0 by unfold feeE; rw [if_neg hno, if_neg h4]]
  have d4 : decide (4611686018427387904 < n) = false := decide_eq_false h4
  obtain ⟨x, rfl⟩ := Int.eq_ofNat_of_zero_le (show 0 ≤ n by omega)
  obtain ⟨y, rfl⟩ := Int.eq_ofNat_of_zero_le (show 0 ≤ b by omega)
  obtain ⟨m, hm⟩ : ∃ m : Nat, m = x * y := ⟨_, rfl⟩
  have em : (x : Int) * (y : Int) = (m : Int) := by rw [hm]; rfl
  have hml : m ≤ 4611686018427387904 * 1000 := by rw [hm]; exact Nat.mul_le_mul (by omega) (by omega)
  have hD := hdiv m em.symm (by omega)
  rw [em]
  have hM := Tryz.bits_Mul64 x y (by omega) (by omega)
  rw [← hm] at hM
  obtain ⟨hi, eh⟩ : ∃ x, m / 18446744073709551616 = x := ⟨_, rfl⟩
  obtain ⟨lo, el⟩ : ∃ x, m % 18446744073709551616 = x := ⟨_, rfl⟩
  obtain ⟨f, ef⟩ : ∃ x, m / 10000 = x := ⟨_, rfl⟩
  rw [eh, el] at hM hD
  rw [ef] at hD
  have HF := Lib.hid (show (f : Int) = (m : Int) / 10000 by omega)
  have hfl : f ≤ 461168601842738791 := by omega
  clear h1 h2 h3 h4 hno em hm hdiv eh el ef hml
  go_enter Tryz.func13, Tryz.ntmps13
  go_wp2_with fail
  refine (hM _).mono ?_
  rintro e w1 ⟨rfl, rfl⟩
  go_wp2_with fail
  refine (hD _).mono ?_
  rintro e w2 ⟨r, rfl, hb2⟩
  have HB := Lib.hid hb2
  clear hb2
  go_wp2_with fail
  go_ret2
  exact ⟨by rw [← HF.out]; rfl, HB.out⟩
theorem fee_low (n b : Int) (hn : -9223372036854775808 ≤ n ∧ n ≤ 9223372036854775807) (hb : -9223372036854775808 ≤ b ∧ b ≤ 9223372036854775807) (hl : n * b < 18446744073709551616) (w : World) :
    Calls Tryz.prog 13 #[.int .i64 n, .int .i64 b] w fun e w' => e = .returned (.tuple #[.int .i64 (feeV n b), .int .i64 (feeE n b)]) ∧ Below w.heap.size w w' :=
  fee_of n b hn hb w fun m hm _ w => by
    rw [show m / 18446744073709551616 = 0 by omega, show m % 18446744073709551616 = m by omega]
    exact (div_low m (by omega) w).mono fun e w' ⟨he, hb⟩ => ⟨_, he, hb⟩
def isB (n e want : Int) : Bool := e == 0 && n == want
theorem is_any (n e want : Int) (w : World) :
    Calls Tryz.prog 15 #[.int .i64 n, .int .i64 e, .int .i64 want] w fun r w' => r = .returned (.bool (isB n e want)) ∧ w' = w := by
  unfold isB
  cases h1 : (e == 0) <;> cases h2 : (n == want)
  all_goals
    go_enter Tryz.func15, Tryz.ntmps15
    go_wp2_with fail
    go_ret
    exact ⟨rfl, rfl⟩
end Go.Proofs.YtikjnfghlohjkaaGreatDoor
