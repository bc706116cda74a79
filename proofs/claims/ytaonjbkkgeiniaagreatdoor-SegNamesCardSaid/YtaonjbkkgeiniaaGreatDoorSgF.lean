/- seg.Fits; Split's closure. -/
import Derived.Test.YtaonjbkkgeiniaaGreatDoorSgL
import Derived.Test.YtaonjbkkgeiniaaGreatDoorSegW
namespace Go.Proofs.YtaonjbkkgeiniaaGreatDoor
open Go.RowKit

theorem ret_b {a b : Bool} (h : a = b) : Ending.returned (.bool a) = .returned (.bool b) := by rw [h]
set_option maxRecDepth 20000 in
set_option maxHeartbeats 2000000 in
theorem fits_any (size n most : Int) (hs : -9223372036854775808 ≤ size ∧ size ≤ 9223372036854775807) (hm : -9223372036854775808 ≤ most ∧ most ≤ 9223372036854775807) (w : World) :
    Calls Tryz.prog 20 #[.int .i64 size, .int .i64 n, .int .i64 most] w fun e w' => e = .returned (.bool (fitB size n most)) ∧ w' = w := by
  have HS := Lib.hid (size_any n w)
  by_cases hl : 1 ≤ n ∧ n ≤ 4096
  · have e1 : szOf n = 16 + n := by unfold szOf; rw [if_pos (show lenOk n from hl)]
    rw [e1] at HS
    have hF : fitB size n most = (size == 16 || decide (size + 16 + n ≤ most)) := by unfold fitB; rw [decide_eq_true hl, Bool.true_and]
    obtain ⟨m, hme⟩ : ∃ m, 16 + n = m := ⟨_, rfl⟩
    rw [hme] at HS
    have hF2 : fitB size n most = (size == 16 || decide (size + m ≤ most)) := by rw [hF, show size + 16 + n = size + m by omega]
    have d0 : (m == 0) = false := by rw [beq_eq_false_iff_ne]; omega
    have hmb : 17 ≤ m ∧ m ≤ 4112 := by omega
    have HF := Lib.hid hF2
    clear hF hF2 hme hl e1
    by_cases h1 : size = 16
    · have d1 : (size == 16) = true := by rw [h1]; rfl
      have HE := Lib.hid (show fitB size n most = true by rw [HF.out, d1]; rfl)
      clear h1
      go_enter Tryz.func20, Tryz.ntmps20
      go_wp2_with fail
      refine HS.out.mono ?_
      rintro e w1 ⟨rfl, rfl⟩
      go_wp2_with fail
      go_ret
      exact ⟨ret_b HE.out.symm, rfl⟩
    have d1 : (size == 16) = false := by rw [beq_eq_false_iff_ne]; exact h1
    have HE : fitB size n most = decide (size + m ≤ most) := by rw [HF.out, d1]; rfl
    by_cases h2 : 0 < size
    · have d2 : decide ((0 : Int) < size) = true := decide_eq_true h2
      by_cases h3 : 0 < most
      · have d3 : decide ((0 : Int) < most) = true := decide_eq_true h3
        have HE2 := Lib.hid (show fitB size n most = decide (size ≤ most - m) by rw [HE]; exact decide_eq_decide.2 (by omega))
        clear HE h2 h1
        go_enter Tryz.func20, Tryz.ntmps20
        go_wp2_with fail
        refine HS.out.mono ?_
        rintro e w1 ⟨rfl, rfl⟩
        go_wp2_with fail
        go_ret
        exact ⟨ret_b HE2.out.symm, rfl⟩
      · have d3 : decide ((0 : Int) < most) = false := decide_eq_false h3
        have d4 : decide (size ≤ (0 : Int)) = false := decide_eq_false (by omega)
        have HE2 := Lib.hid (show fitB size n most = false by rw [HE]; exact decide_eq_false (by omega))
        clear HE h2 h1
        go_enter Tryz.func20, Tryz.ntmps20
        go_wp2_with fail
        refine HS.out.mono ?_
        rintro e w1 ⟨rfl, rfl⟩
        go_wp2_with fail
        go_ret
        exact ⟨ret_b HE2.out.symm, rfl⟩
    · have d2 : decide ((0 : Int) < size) = false := decide_eq_false h2
      have d4 : decide (size ≤ (0 : Int)) = true := decide_eq_true (by omega)
      have HE2 := Lib.hid HE
      clear HE h1
      go_enter Tryz.func20, Tryz.ntmps20
      go_wp2_with fail
      refine HS.out.mono ?_
      rintro e w1 ⟨rfl, rfl⟩
      go_wp2_with fail
      go_ret
      exact ⟨ret_b HE2.out.symm, rfl⟩
  · have e1 : szOf n = 0 := by unfold szOf; rw [if_neg (show ¬ lenOk n from hl)]
    rw [e1] at HS
    have HE := Lib.hid (show fitB size n most = false by unfold fitB; rw [decide_eq_false hl]; rfl)
    clear hl e1
    go_enter Tryz.func20, Tryz.ntmps20
    go_wp2_with fail
    refine HS.out.mono ?_
    rintro e w1 ⟨rfl, rfl⟩
    go_wp2_with fail
    go_ret
    exact ⟨ret_b HE.out.symm, rfl⟩
set_option maxHeartbeats 1000000 in
theorem split1_any (x y : Int) (c : Nat) (most : Int) (hs : -9223372036854775808 ≤ x ∧ x ≤ 9223372036854775807) (hm : -9223372036854775808 ≤ most ∧ most ≤ 9223372036854775807) (w : World) (hc : w.cell? ⟨c, 0, none⟩ = some (.int .i64 most)) :
    Calls Tryz.prog 49 #[.int .i64 x, .int .i64 y, .pointer (some ⟨c, 0, none⟩)] w fun e w' => e = .returned (.bool (fitB x y most)) ∧ w' = w := by
  have H := Lib.hid (fits_any x y most hs hm w)
  clear hs hm
  go_enter Tryz.func49, Tryz.ntmps49
  go_wp2_with fail
  refine H.out.mono ?_
  rintro e w1 ⟨rfl, rfl⟩
  go_wp2_with fail
  go_ret
  exact ⟨rfl, rfl⟩
end Go.Proofs.YtaonjbkkgeiniaaGreatDoor
