/- souklaw03.MoneyFair. -/
import Derived.Test.YtikjnfghlohjkaaDoorMonAw
import Derived.Test.YtikjnfghlohjkaaDoorMonG
import Derived.Test.YtikjnfghlohjkaaDoorMonD
namespace Go.Proofs.YtikjnfghlohjkaaDoor
open Go.RowKit Go.Shelf Go.Lib

/-- Fee, of what it gives -/
def FeeG (a b n e : Int) : Prop := ∀ w, Calls Tryd.prog 13 #[.int .i64 a, .int .i64 b] w fun r w' => r = .returned (.tuple #[.int .i64 n, .int .i64 e]) ∧ Below w.heap.size w w'
theorem feeG_any {a b : Int} (ha : -9223372036854775808 ≤ a ∧ a ≤ 9223372036854775807) (hb : -9223372036854775808 ≤ b ∧ b ≤ 9223372036854775807) : FeeG a b (feeV a b) (feeE a b) := fun w =>
  fee_of a b ha hb w fun m hm hh w => by
    by_cases h0 : m / 18446744073709551616 = 0
    · rw [h0, show m % 18446744073709551616 = m by omega]
      exact (div_low m (by omega) w).mono fun e w' ⟨he, hb⟩ => ⟨_, he, hb⟩
    · have := div_high (m / 18446744073709551616) (m % 18446744073709551616) (by omega) hh (by omega) w
      rw [show m / 18446744073709551616 * 18446744073709551616 + m % 18446744073709551616 = m by omega] at this
      exact this
theorem feeG_ok {a f : Int} (h : 0 ≤ a ∧ a ≤ 4611686018427387904 ∧ 0 ≤ f ∧ f ≤ 1000) (p : Int) (hp : a * f = p) : FeeG a f (p / 10000) 0 := by
  have := feeG_any (a := a) (b := f) (by omega) (by omega)
  rw [show feeV a f = p / 10000 by unfold feeV; rw [if_neg (by omega), if_neg (by omega), hp], show feeE a f = 0 by unfold feeE; rw [if_neg (by omega), if_neg (by omega)]] at this
  exact this
theorem feeE_zero {a f : Int} (h : feeE a f = 0) : 0 ≤ a ∧ a ≤ 4611686018427387904 ∧ 0 ≤ f ∧ f ≤ 1000 := by
  unfold feeE at h
  split at h
  · cases h
  · split at h
    · cases h
    · omega
theorem feeV_bad {a f : Int} (h : feeE a f ≠ 0) : feeV a f = 0 := by
  unfold feeE at h
  unfold feeV
  split
  · rfl
  · split
    · rfl
    · rename_i h1 h2
      rw [if_neg h1, if_neg h2] at h
      exact absurd rfl h

set_option maxRecDepth 20000 in
set_option maxHeartbeats 2000000 in
theorem fair_bad (a b f g x e y h : Int) (w : World) (hR : RngT w) (hP : PowT w) (k1 : FeeG a f x e) (k2 : FeeG b f y h) (hor : (e ≠ 0 ∧ x = 0) ∨ (e = 0 ∧ h ≠ 0 ∧ y = 0)) :
    Calls Tryd.prog 7 #[.int .i64 a, .int .i64 b, .int .i64 f, .int .i64 g] w fun r w' => r = .returned (.bool true) ∧ Below w.heap.size w w' := by
  have HW := Lib.hid (awake_any w hR hP)
  have K1 := Lib.hid k1
  have K2 := Lib.hid k2
  clear hR hP k1 k2
  rcases hor with ⟨he, rfl⟩ | ⟨rfl, hh, rfl⟩
  · have d1 : (e != 0) = true := by simpa using he
    clear he
    go_enter Tryd.func7, Tryd.ntmps7
    go_wp2_with fail
    refine HW.out.mono ?_
    rintro r w1 ⟨rfl, hb1⟩
    have HB1 := Lib.hid hb1
    clear hb1
    go_wp2_with fail
    refine (K1.out _).mono ?_
    rintro r w2 ⟨rfl, hb⟩
    have HB2 := Lib.hid (bel_trans HB1.out hb)
    clear hb
    go_wp2_with fail
    refine (K2.out _).mono ?_
    rintro r w3 ⟨rfl, hb⟩
    have HB3 := Lib.hid (bel_trans HB2.out hb)
    clear hb
    go_wp2_with fail
    go_ret
    exact ⟨by simp, HB3.out⟩
  · have d1 : (h != 0) = true := by simpa using hh
    clear hh
    go_enter Tryd.func7, Tryd.ntmps7
    go_wp2_with fail
    refine HW.out.mono ?_
    rintro r w1 ⟨rfl, hb1⟩
    have HB1 := Lib.hid hb1
    clear hb1
    go_wp2_with fail
    refine (K1.out _).mono ?_
    rintro r w2 ⟨rfl, hb⟩
    have HB2 := Lib.hid (bel_trans HB1.out hb)
    clear hb
    go_wp2_with fail
    refine (K2.out _).mono ?_
    rintro r w3 ⟨rfl, hb⟩
    have HB3 := Lib.hid (bel_trans HB2.out hb)
    clear hb
    go_wp2_with fail
    go_ret
    exact ⟨by simp, HB3.out⟩

set_option maxRecDepth 20000 in
set_option maxHeartbeats 4000000 in
theorem fair_ok (a b f g x y more j s k z : Int) (w : World) (hR : RngT w) (hP : PowT w) (k1 : FeeG a f x 0) (k2 : FeeG b f y 0) (k3 : FeeG a 0 0 0) (k4 : FeeG a g more j)
    (k5 : ∀ w, Calls Tryd.prog 21 #[.int .i64 a, .int .i64 b] w fun e w' => e = .returned (.tuple #[.int .i64 s, .int .i64 k]) ∧ Below w.heap.size w w')
    (ha : 0 ≤ a ∧ a ≤ 4611686018427387904) (hx : 0 ≤ x ∧ x ≤ a / 10) (hy : 0 ≤ y ∧ y ≤ 461168601842738790)
    (p1 : decide (a ≤ b) = false ∨ (decide (a ≤ b) = true ∧ decide (y < x) = false))
    (p2 : (j == 0) = false ∨ ((j == 0) = true ∧ decide (f ≤ g) = false) ∨ ((j == 0) = true ∧ decide (f ≤ g) = true ∧ decide (more < x) = false))
    (p3 : (k != 0) = true ∨ (k = 0 ∧ FeeG s f z 0 ∧ ((z == x + y) = true ∨ ((z == x + y) = false ∧ (z == x + y + 1) = true)))) :
    Calls Tryd.prog 7 #[.int .i64 a, .int .i64 b, .int .i64 f, .int .i64 g] w fun r w' => r = .returned (.bool true) ∧ Below w.heap.size w w' := by
  have HW := Lib.hid (awake_any w hR hP)
  have K1 := Lib.hid k1
  have K2 := Lib.hid k2
  have K3 := Lib.hid k3
  have K4 := Lib.hid k4
  have K5 := Lib.hid k5
  have P2 := Lib.hid p2
  have P3 := Lib.hid p3
  have hi := is_yes 0 0 0 rfl
  have d1 : decide (x < 0) = false := decide_eq_false (by omega)
  have d2 : decide (a / 10 < x) = false := decide_eq_false (by omega)
  have hxl : x ≤ 461168601842738790 := by omega
  clear hR hP k1 k2 k3 k4 k5 p2 p3
  rcases p1 with e1 | ⟨e1, e2⟩
  all_goals
    go_enter Tryd.func7, Tryd.ntmps7
    go_wp2_with fail
    refine HW.out.mono ?_
    rintro r w1 ⟨rfl, hb1⟩
    have HB1 := Lib.hid hb1
    clear hb1
    go_wp2_with fail
    refine (K1.out _).mono ?_
    rintro r w2 ⟨rfl, hb⟩
    have HB2 := Lib.hid (bel_trans HB1.out hb)
    clear hb
    go_wp2_with fail
    refine (K2.out _).mono ?_
    rintro r w3 ⟨rfl, hb⟩
    have HB3 := Lib.hid (bel_trans HB2.out hb)
    clear hb HB1 HB2
    go_wp2_with fail
    refine (K3.out _).mono ?_
    rintro r w4 ⟨rfl, hb⟩
    have HB4 := Lib.hid (bel_trans HB3.out hb)
    clear hb
    go_wp2_with fail
    refine (hi _).mono ?_
    rintro r y' ⟨rfl, rfl⟩
    go_wp2_with fail
    refine (K4.out _).mono ?_
    rintro r w5 ⟨rfl, hb⟩
    have HB5 := Lib.hid (bel_trans HB4.out hb)
    clear hb HB3 HB4 d1 d2 e1 K1 K2 K3 K4 hi
    rcases P2.out with f1 | ⟨f1, f2⟩ | ⟨f1, f2, f3⟩
    all_goals
      go_wp2_with fail
      refine (K5.out _).mono ?_
      rintro r w6 ⟨rfl, hb⟩
      have HB6 := Lib.hid (bel_trans HB5.out hb)
      clear hb
      rcases P3.out with g1 | ⟨rfl, k6, g2 | ⟨g2, g3⟩⟩
      · go_wp2_with fail
        go_ret
        exact ⟨rfl, HB6.out⟩
      · have K6 := Lib.hid k6
        clear k6
        go_wp2_with fail
        refine (K6.out _).mono ?_
        rintro r w7 ⟨rfl, hb⟩
        have HB7 := Lib.hid (bel_trans HB6.out hb)
        clear hb
        go_wp2_with fail
        go_ret
        exact ⟨rfl, HB7.out⟩
      · have K6 := Lib.hid k6
        clear k6
        go_wp2_with fail
        refine (K6.out _).mono ?_
        rintro r w7 ⟨rfl, hb⟩
        have HB7 := Lib.hid (bel_trans HB6.out hb)
        clear hb
        go_wp2_with fail
        go_ret
        exact ⟨rfl, HB7.out⟩

theorem fair_law (a b f g : Int) (ha : -9223372036854775808 ≤ a ∧ a ≤ 9223372036854775807) (hb : -9223372036854775808 ≤ b ∧ b ≤ 9223372036854775807) (hf : -9223372036854775808 ≤ f ∧ f ≤ 9223372036854775807) (hg : -9223372036854775808 ≤ g ∧ g ≤ 9223372036854775807) (w : World) (hR : RngT w) (hP : PowT w) :
    Calls Tryd.prog 7 #[.int .i64 a, .int .i64 b, .int .i64 f, .int .i64 g] w fun r w' => r = .returned (.bool true) ∧ Below w.heap.size w w' := by
  by_cases h1 : feeE a f = 0
  · by_cases h2 : feeE b f = 0
    · have r1 := feeE_zero h1
      have r2 := feeE_zero h2
      obtain ⟨p, hp⟩ : ∃ p, a * f = p := ⟨_, rfl⟩
      obtain ⟨q, hq⟩ : ∃ q, b * f = q := ⟨_, rfl⟩
      have hp0 : 0 ≤ p := by rw [← hp]; exact Int.mul_nonneg (by omega) (by omega)
      have hq0 : 0 ≤ q := by rw [← hq]; exact Int.mul_nonneg (by omega) (by omega)
      have hp1 : p ≤ a * 1000 := by rw [← hp]; exact Int.mul_le_mul_of_nonneg_left (by omega) (by omega)
      have hq1 : q ≤ b * 1000 := by rw [← hq]; exact Int.mul_le_mul_of_nonneg_left (by omega) (by omega)
      have hab : a ≤ b → p ≤ q := fun h => by rw [← hp, ← hq]; exact Int.mul_le_mul_of_nonneg_right h (by omega)
      have hs : (a + b) * f = p + q := by rw [Int.add_mul, hp, hq]
      refine fair_ok a b f g (p / 10000) (q / 10000) (feeV a g) (feeE a g) (addV a b) (addE a b) ((p + q) / 10000) w hR hP (feeG_ok r1 p hp) (feeG_ok r2 q hq) (feeG_ok (by omega) 0 (Int.mul_zero a)) (feeG_any ha hg) (add_any a b ha hb) (by omega) (by omega) (by omega) ?_ ?_ ?_
      · by_cases h : a ≤ b
        · exact .inr ⟨decide_eq_true h, decide_eq_false (by have := hab h; omega)⟩
        · exact .inl (decide_eq_false h)
      · by_cases h3 : feeE a g = 0
        · have r3 := feeE_zero h3
          by_cases h4 : f ≤ g
          · refine .inr (.inr ⟨by rw [h3]; rfl, decide_eq_true h4, decide_eq_false ?_⟩)
            obtain ⟨t, ht⟩ : ∃ t, a * g = t := ⟨_, rfl⟩
            have hpt : p ≤ t := by rw [← hp, ← ht]; exact Int.mul_le_mul_of_nonneg_left h4 (by omega)
            rw [show feeV a g = t / 10000 by unfold feeV; rw [if_neg (by omega), if_neg (by omega), ht]]
            omega
          · exact .inr (.inl ⟨by rw [h3]; rfl, decide_eq_false h4⟩)
        · exact .inl (by simpa using h3)
      · by_cases h5 : 4611686018427387904 < a + b
        · left
          rw [show addE a b = 41 by unfold addE toldE; rw [if_neg (by omega)]]
          rfl
        · right
          refine ⟨by unfold addE toldE; rw [if_pos (by omega)], ?_, ?_⟩
          · rw [show addV a b = a + b by unfold addV toldV; rw [if_pos (by omega)]]
            exact feeG_ok (by omega) (p + q) hs
          · by_cases h6 : (p + q) / 10000 = p / 10000 + q / 10000
            · exact .inl (by simpa using h6)
            · have h7 : (p + q) / 10000 = p / 10000 + q / 10000 + 1 := by omega
              exact .inr ⟨by simpa using h6, by simpa using h7⟩
    · exact fair_bad a b f g _ _ _ _ w hR hP (feeG_any ha hf) (feeG_any hb hf) (.inr ⟨h1, h2, feeV_bad h2⟩)
  · exact fair_bad a b f g _ _ _ _ w hR hP (feeG_any ha hf) (feeG_any hb hf) (.inl ⟨h1, feeV_bad h1⟩)
end Go.Proofs.YtikjnfghlohjkaaDoor
