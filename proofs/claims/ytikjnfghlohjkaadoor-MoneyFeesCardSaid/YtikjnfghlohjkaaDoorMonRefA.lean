/- soukref03: two, one, Sum of two, Fee. -/
import Derived.Test.YtikjnfghlohjkaaDoorMonC
namespace Go.Proofs.YtikjnfghlohjkaaDoor
open Go.RowKit

theorem i64_and32 (n : Int) (h0 : 0 ≤ n) (h1 : n ≤ 9223372036854775807) : bits .and .i64 n 4294967295 = n % 4294967296 := by
  obtain ⟨a, rfl⟩ := Int.eq_ofNat_of_zero_le h0
  have ha : (BitVec.ofInt 64 (a : Int)).toNat = a := by
    rw [BitVec.ofInt_natCast, BitVec.toNat_ofNat]; exact Nat.mod_eq_of_lt (by omega)
  have hb : (BitVec.ofInt 64 4294967295).toNat = 4294967295 := by decide
  show IntKind.i64.wrap ((BitVec.ofInt 64 (a : Int) &&& BitVec.ofInt 64 4294967295).toNat : Int) = _
  rw [BitVec.toNat_and, ha, hb, show (4294967295 : Nat) = 2 ^ 32 - 1 from rfl, Nat.and_two_pow_sub_one_eq_mod, IntWalk.i64_in _ (by omega)]
  omega
theorem two_any (n : Int) (h0 : 0 ≤ n) (h1 : n ≤ 9223372036854775807) (w : World) :
    Calls Tryd.prog 39 #[.int .i64 n] w fun e w' => e = .returned (.tuple #[.int .i64 (n / 4294967296), .int .i64 (n % 4294967296)]) ∧ w' = w := by
  have h := i64_and32 n h0 h1
  go_enter Tryd.func39, Tryd.ntmps39
  go_wp2_with fail
  go_ret2
  exact ⟨rfl, rfl⟩
theorem one_any (h l : Int) (h0 : 0 ≤ h ∧ h ≤ 4294967296) (l0 : 0 ≤ l ∧ l ≤ 9223372036854775807) (w : World) :
    Calls Tryd.prog 40 #[.int .i64 h, .int .i64 l] w fun e w' => e = .returned (.tuple #[.int .i64 (toldV (h * 4294967296 + l)), .int .i64 (toldE (h * 4294967296 + l))]) ∧ w' = w := by
  have e1 := i64_and32 l l0.1 l0.2
  obtain ⟨m, hm⟩ : ∃ m, l % 4294967296 = m := ⟨_, rfl⟩
  obtain ⟨u, hu⟩ : ∃ u, h + l / 4294967296 = u := ⟨_, rfl⟩
  rw [hm] at e1
  have hur : 0 ≤ u ∧ u ≤ 6442450944 := by omega
  have hmr : 0 ≤ m ∧ m < 4294967296 := by omega
  have HT := Lib.hid (show h * 4294967296 + l = u * 4294967296 + m by omega)
  have HE := Lib.hid (show ∀ v e : Int, v = toldV (h * 4294967296 + l) → e = toldE (h * 4294967296 + l) → Ending.returned (.tuple #[.int .i64 v, .int .i64 e]) = .returned (.tuple #[.int .i64 (toldV (h * 4294967296 + l)), .int .i64 (toldE (h * 4294967296 + l))]) from fun _ _ => told_eq)
  have HM := Lib.hid hm
  clear hm
  go_enter Tryd.func40, Tryd.ntmps40
  go_wp2_with fail
  all_goals
    go_ret2
    exact ⟨HE.out _ _ (by rw [HT.out]; unfold toldV; split <;> omega) (by rw [HT.out]; unfold toldE; split <;> omega), rfl⟩

set_option maxHeartbeats 1000000 in
/-- Sum, of two that are not below nought -/
theorem rsum2 (a b : Int) (ha : 0 ≤ a ∧ a ≤ 9223372036854775807) (hb : 0 ≤ b ∧ b ≤ 9223372036854775807) (w : World) (g : Nat) (c0 : w.cell? ⟨g, 0, none⟩ = some (.int .i64 a)) (c1 : w.cell? ⟨g, 1, none⟩ = some (.int .i64 b)) :
    Calls Tryd.prog 26 #[.slice (some ⟨g, 0, none⟩) 2 2] w fun e w' => e = .returned (.tuple #[.int .i64 (toldV (a + b)), .int .i64 (toldE (a + b))]) ∧ Below w.heap.size w w' := by
  obtain ⟨p, q, hp⟩ : ∃ p q, a / 4294967296 = p ∧ a % 4294967296 = q := ⟨_, _, rfl, rfl⟩
  obtain ⟨r, s, hr⟩ : ∃ p q, b / 4294967296 = p ∧ b % 4294967296 = q := ⟨_, _, rfl, rfl⟩
  have t1 := two_any a ha.1 ha.2
  have t2 := two_any b hb.1 hb.2
  rw [hp.1, hp.2] at t1
  rw [hr.1, hr.2] at t2
  have hpb : 0 ≤ p ∧ p ≤ 2147483648 := by omega
  have hrb : 0 ≤ r ∧ r ≤ 2147483648 := by omega
  have hqb : 0 ≤ q ∧ q < 4294967296 := by omega
  have hsb : 0 ≤ s ∧ s < 4294967296 := by omega
  have t3 := one_any (p + r) (q + s) (by omega) (by omega)
  rw [show (p + r) * 4294967296 + (q + s) = a + b by omega] at t3
  have C0 := Lib.hid c0
  have C1 := Lib.hid c1
  clear hp hr ha hb c0 c1
  go_enter Tryd.func26, Tryd.ntmps26
  go_wp2_with fail
  go_loopw [4, 5, 6] (fun hv lv iv wr => ((iv = .int .i64 0 ∧ hv = .int .i64 0 ∧ lv = .int .i64 0) ∨ (iv = .int .i64 1 ∧ hv = .int .i64 p ∧ lv = .int .i64 q) ∨ (iv = .int .i64 2 ∧ hv = .int .i64 (p + r) ∧ lv = .int .i64 (q + s))) ∧ Below w.heap.size w wr) (fun _ _ iv _ => 2 - (intOf iv).toNat)
  case atStart => exact ⟨.inl ⟨rfl, rfl, rfl⟩, Below.refl _ _⟩
  case round =>
    obtain ⟨hor, hb⟩ := hrel
    have HB := Lib.hid hb
    clear hb
    have d0 := (HB.out.cell (p := ⟨g, 0, none⟩) (cell_lt C0.out)).trans C0.out
    have d1 := (HB.out.cell (p := ⟨g, 1, none⟩) (cell_lt C1.out)).trans C1.out
    rcases hor with ⟨rfl, rfl, rfl⟩ | ⟨rfl, rfl, rfl⟩ | ⟨rfl, rfl, rfl⟩
    · go_wp2_with fail
      refine (t1 _).mono ?_
      rintro e y' ⟨rfl, rfl⟩
      go_wp2_with fail
      go_roundw
      case rel => exact ⟨.inr (.inl ⟨rfl, by simp, by simp⟩), HB.out⟩
      case measure => simp [intOf]
    · go_wp2_with fail
      refine (t2 _).mono ?_
      rintro e y' ⟨rfl, rfl⟩
      go_wp2_with fail
      go_roundw
      case rel => exact ⟨.inr (.inr ⟨rfl, rfl, rfl⟩), HB.out⟩
      case measure => simp [intOf]
    · go_wp2_with fail
      refine (t3 _).mono ?_
      rintro e y' ⟨rfl, rfl⟩
      go_wp2_with fail
      go_ret2
      exact ⟨rfl, HB.out⟩

theorem rfee_eq (n b : Int) (p : Int) (hp : n / 10000 * b = p) (q : Int) (hq : n % 10000 * b = q) : p + q / 10000 = n * b / 10000 := by
  have h1 : n * b = p * 10000 + q := by
    have h := Int.mul_ediv_add_emod n 10000
    rw [← hp, ← hq]
    calc n * b = (10000 * (n / 10000) + n % 10000) * b := by rw [h]
      _ = n / 10000 * b * 10000 + n % 10000 * b := by rw [Int.add_mul, Int.mul_comm 10000 (n / 10000), Int.mul_right_comm]
  rw [h1]
  omega
set_option maxHeartbeats 1000000 in
theorem rfee_any (n b : Int) (hn : -9223372036854775808 ≤ n ∧ n ≤ 9223372036854775807) (hb : -9223372036854775808 ≤ b ∧ b ≤ 9223372036854775807) (w : World) :
    Calls Tryd.prog 14 #[.int .i64 n, .int .i64 b] w fun e w' => e = .returned (.tuple #[.int .i64 (feeV n b), .int .i64 (feeE n b)]) ∧ w' = w := by
  have HE := Lib.hid (show ∀ v e : Int, v = feeV n b → e = feeE n b → Ending.returned (.tuple #[.int .i64 v, .int .i64 e]) = .returned (.tuple #[.int .i64 (feeV n b), .int .i64 (feeE n b)]) from fun _ _ => told_eq)
  by_cases hbad : n < 0 ∨ b < 0 ∨ 1000 < b
  · have HV := Lib.hid (show feeV n b = 0 ∧ feeE n b = 1 from ⟨if_pos hbad, if_pos hbad⟩)
    have HX := Lib.hid hbad
    clear hbad
    go_enter Tryd.func14, Tryd.ntmps14
    go_wp2_with fail
    all_goals first
      | (go_ret2; exact ⟨HE.out _ _ (by first | exact HV.out.1.symm | (have := HX.out; omega)) (by first | exact HV.out.2.symm | (have := HX.out; omega)), rfl⟩)
      | (exfalso; have := HX.out; omega)
  · by_cases hf : 4611686018427387904 < n
    · have HV := Lib.hid (show feeV n b = 0 ∧ feeE n b = 41 from ⟨by unfold feeV; rw [if_neg hbad, if_pos hf], by unfold feeE; rw [if_neg hbad, if_pos hf]⟩)
      have d1 : decide (n < 0) = false := decide_eq_false (by omega)
      have d2 : decide (b < 0) = false := decide_eq_false (by omega)
      have d3 : decide (1000 < b) = false := decide_eq_false (by omega)
      have d4 : decide (4611686018427387904 < n) = true := decide_eq_true hf
      clear hbad hf
      go_enter Tryd.func14, Tryd.ntmps14
      go_wp2_with fail
      go_ret2
      exact ⟨HE.out _ _ HV.out.1.symm HV.out.2.symm, rfl⟩
    · have d1 : decide (n < 0) = false := decide_eq_false (by omega)
      have d2 : decide (b < 0) = false := decide_eq_false (by omega)
      have d3 : decide (1000 < b) = false := decide_eq_false (by omega)
      have d4 : decide (4611686018427387904 < n) = false := decide_eq_false hf
      obtain ⟨u, hu⟩ : ∃ u, n / 10000 = u := ⟨_, rfl⟩
      obtain ⟨v, hv⟩ : ∃ v, n % 10000 = v := ⟨_, rfl⟩
      obtain ⟨p, hp⟩ : ∃ p, u * b = p := ⟨_, rfl⟩
      obtain ⟨q, hq⟩ : ∃ q, v * b = q := ⟨_, rfl⟩
      have hp0 : 0 ≤ p := by rw [← hp]; exact Int.mul_nonneg (by omega) (by omega)
      have hp1 : p ≤ 461168601842738790400 := by
        rw [← hp]
        calc u * b ≤ 461168601842738 * 1000 := Int.mul_le_mul (by omega) (by omega) (by omega) (by omega)
          _ ≤ 461168601842738790400 := by omega
      have hp2 : p ≤ 461168601842738 * 1000 := by rw [← hp]; exact Int.mul_le_mul (by omega) (by omega) (by omega) (by omega)
      have hq0 : 0 ≤ q := by rw [← hq]; exact Int.mul_nonneg (by omega) (by omega)
      have hq1 : q ≤ 9999 * 1000 := by rw [← hq]; exact Int.mul_le_mul (by omega) (by omega) (by omega) (by omega)
      have HV := Lib.hid (show feeV n b = p + q / 10000 ∧ feeE n b = 0 from ⟨by unfold feeV; rw [if_neg hbad, if_neg hf]; exact (rfee_eq n b p (by rw [hu]; exact hp) q (by rw [hv]; exact hq)).symm, by unfold feeE; rw [if_neg hbad, if_neg hf]⟩)
      have hn0 : 0 ≤ n := by omega
      have E1 : IntKind.i64.wrap (u * b) = p := by rw [hp]; exact IntWalk.i64_in _ (by omega)
      have E2 : IntKind.i64.wrap (v * b) = q := by rw [hq]; exact IntWalk.i64_in _ (by omega)
      clear hbad hf hp1
      go_enter Tryd.func14, Tryd.ntmps14
      go_wp2_with fail
      go_ret2
      exact ⟨HE.out _ _ HV.out.1.symm HV.out.2.symm, rfl⟩
end Go.Proofs.YtikjnfghlohjkaaDoor
