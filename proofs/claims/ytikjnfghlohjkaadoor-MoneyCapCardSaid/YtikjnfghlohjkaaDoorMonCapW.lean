/- souklaw03.MoneyCap. -/
import Derived.Test.YtikjnfghlohjkaaDoorMonAw
import Derived.Test.YtikjnfghlohjkaaDoorMonG
namespace Go.Proofs.YtikjnfghlohjkaaDoor
open Go.RowKit Go.Shelf Go.Lib

theorem wthn_fix {n : Int} (h : 0 ≤ n ∧ n ≤ 4611686018427387904) : wthn n = n := by unfold wthn; rw [if_neg (by omega), if_neg (by omega)]
theorem capV_in (a b : Int) : 0 ≤ capV a b ∧ capV a b ≤ 4611686018427387904 := by
  have h1 := wthn_in a; have h2 := wthn_in b
  unfold capV; split <;> omega
theorem capV_comm (a b : Int) : capV b a = capV a b := by unfold capV; rw [Int.add_comm]
theorem capV_l {p q : Int} (h : 0 ≤ p ∧ p ≤ 4611686018427387904) : capV p q = if 4611686018427387904 < p + wthn q then 4611686018427387904 else p + wthn q := by unfold capV; rw [wthn_fix h]
theorem capV_r {p q : Int} (h : 0 ≤ q ∧ q ≤ 4611686018427387904) : capV p q = if 4611686018427387904 < wthn p + q then 4611686018427387904 else wthn p + q := by unfold capV; rw [wthn_fix h]
theorem capV_assoc (a b c : Int) : capV (capV a b) c = capV a (capV b c) := by
  have h1 := wthn_in a; have h2 := wthn_in b; have h3 := wthn_in c
  rw [capV_l (capV_in a b), capV_r (capV_in b c)]
  unfold capV
  (repeat' split) <;> omega
theorem capV_zero (a : Int) : capV a 0 = wthn a := by
  have h1 := wthn_in a
  unfold capV
  rw [show wthn 0 = 0 from rfl, Int.add_zero, if_neg (by omega)]

set_option maxRecDepth 20000 in
set_option maxHeartbeats 2000000 in
theorem cap_law (a b c : Int) (w : World) (hR : RngT w) (hP : PowT w) :
    Calls Tryd.prog 8 #[.int .i64 a, .int .i64 b, .int .i64 c] w fun e w' => e = .returned (.bool true) ∧ Below w.heap.size w w' := by
  have HW := Lib.hid (awake_any w hR hP)
  clear hR hP
  have k1 := cap_any a 0
  have k2 := cap_any b 0
  have k3 := cap_any a b
  have k4 := cap_any b a
  have k5 := cap_any (capV a b) c
  have k6 := cap_any b c
  have k7 := cap_any a (capV b c)
  rw [capV_comm] at k4
  rw [capV_assoc] at k5
  have r1 := capV_in a 0
  have r2 := capV_in b 0
  have r3 := capV_in a b
  have e1 := capV_zero a
  have e2 := capV_zero b
  have hX : capV a b = if 4611686018427387904 < capV a 0 + capV b 0 then 4611686018427387904 else capV a 0 + capV b 0 := by rw [e1, e2]; rfl
  have hx : 0 ≤ a → a ≤ 4611686018427387904 → capV a 0 = a := fun h1 h2 => by rw [e1, wthn_fix ⟨h1, h2⟩]
  generalize capV a 0 = x at *
  generalize capV b 0 = y at *
  generalize capV a b = B at *
  generalize capV b c = E at *
  generalize capV a E = D at *
  have hA := add_any x y (by omega) (by omega)
  have hs : addV x y = (if 4611686018427387904 < x + y then 0 else x + y) ∧ addE x y = (if 4611686018427387904 < x + y then 41 else 0) := by
    unfold addV addE toldV toldE
    by_cases h : 4611686018427387904 < x + y
    · have n : ¬ (-4611686018427387904 ≤ x + y ∧ x + y ≤ 4611686018427387904) := by omega
      rw [if_neg n, if_neg n, if_pos h, if_pos h]; exact ⟨rfl, rfl⟩
    · have n : -4611686018427387904 ≤ x + y ∧ x + y ≤ 4611686018427387904 := by omega
      rw [if_pos n, if_pos n, if_neg h, if_neg h]; exact ⟨rfl, rfl⟩
  rw [hs.1, hs.2] at hA
  have d1 : decide (B < x) = false := decide_eq_false (by rw [hX]; split <;> omega)
  have d2 : decide (B < y) = false := decide_eq_false (by rw [hX]; split <;> omega)
  have d3 : decide (4611686018427387904 < B) = false := decide_eq_false (by omega)
  have d4 : decide (x < 0) = false := decide_eq_false (by omega)
  have HX := Lib.hid hX
  have Hx := Lib.hid hx
  have HA := Lib.hid hA
  clear hs e1 e2 r1 r2 r3 hX hx hA
  go_enter Tryd.func8, Tryd.ntmps8
  go_wp2_with fail
  refine HW.out.mono ?_
  rintro e w1 ⟨rfl, hb1⟩
  have HB := Lib.hid hb1
  clear hb1 HW
  go_wp2_with fail
  refine (k1 _).mono ?_
  rintro e y' ⟨rfl, rfl⟩
  go_wp2_with fail
  refine (k2 _).mono ?_
  rintro e y' ⟨rfl, rfl⟩
  go_wp2_with fail
  refine (k3 _).mono ?_
  rintro e y' ⟨rfl, rfl⟩
  go_wp2_with fail
  refine (k4 _).mono ?_
  rintro e y' ⟨rfl, rfl⟩
  go_wp2_with fail
  refine (k5 _).mono ?_
  rintro e y' ⟨rfl, rfl⟩
  go_wp2_with fail
  refine (k6 _).mono ?_
  rintro e y' ⟨rfl, rfl⟩
  go_wp2_with fail
  refine (k7 _).mono ?_
  rintro e y' ⟨rfl, rfl⟩
  clear k1 k2 k3 k4 k5 k6 k7
  have hd : ∃ p q : Bool, decide (0 ≤ a) = p ∧ decide (a ≤ 4611686018427387904) = q ∧ ((x != a) = false ∨ p = false ∨ q = false) := by
    refine ⟨_, _, rfl, rfl, ?_⟩
    by_cases h1 : 0 ≤ a
    · by_cases h2 : a ≤ 4611686018427387904
      · left; rw [Hx.out h1 h2]; simp
      · right; right; exact decide_eq_false h2
    · right; left; exact decide_eq_false h1
  obtain ⟨p, q, dp, dq, hor⟩ := hd
  obtain ⟨t, ht⟩ : ∃ t, (x != a) = t := ⟨_, rfl⟩
  rw [ht] at hor
  clear Hx
  have fin : ∀ (K : Prop), (p = false → K) → (p = true → q = false → K) → (p = true → q = true → t = false → K) → K := fun K a1 a2 a3 => by
    cases p
    · exact a1 rfl
    · cases q
      · exact a2 rfl rfl
      · cases t
        · exact a3 rfl rfl rfl
        · simp at hor
  clear hor
  refine fin _ (fun h1 => ?_) (fun h1 h2 => ?_) (fun h1 h2 h3 => ?_)
  all_goals
    clear fin
    rw [h1] at dp
    try rw [h2] at dq
    try rw [h3] at ht
    by_cases hsum : 4611686018427387904 < x + y
    · have hA := HA.out
      have hX := HX.out
      rw [if_pos hsum, if_pos hsum] at hA
      rw [if_pos hsum] at hX
      have HA2 := Lib.hid hA
      clear hA HA HX hsum
      subst hX
      go_wp2_with fail
      refine (HA2.out _).mono ?_
      rintro e w3 ⟨rfl, hb3⟩
      have HB3 := Lib.hid (bel_trans HB.out hb3)
      clear hb3
      go_wp2_with fail
      go_ret
      exact ⟨rfl, HB3.out⟩
    · have hA := HA.out
      have hX := HX.out
      rw [if_neg hsum, if_neg hsum] at hA
      rw [if_neg hsum] at hX
      rw [← hX] at hA
      have HA2 := Lib.hid hA
      clear hA HA HX hsum hX
      go_wp2_with fail
      refine (HA2.out _).mono ?_
      rintro e w3 ⟨rfl, hb3⟩
      have HB3 := Lib.hid (bel_trans HB.out hb3)
      clear hb3
      go_wp2_with fail
      go_ret
      exact ⟨by simp, HB3.out⟩
end Go.Proofs.YtikjnfghlohjkaaDoor
