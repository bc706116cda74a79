/- souklaw03.awake. (Its walk printed by wip/gen_awake.py.) -/
import Derived.Test.YtikjnfghlohjkaaGreatDoorMonF
namespace Go.Proofs.YtikjnfghlohjkaaGreatDoor
open Go.RowKit Go.Shelf Go.Lib

theorem sum_new (w : World) (a b c : Int) (ha : (Lit.int .i64 a).wf = true) (hb : (Lit.int .i64 b).wf = true) (hc : (Lit.int .i64 c).wf = true) :
    IntsIn .i64 (w.alloc (.cells #[.int .i64 a, .int .i64 b, .int .i64 c] 2)) (some ⟨w.heap.size, 0, none⟩) 3 3 [a, b, c] := by
  refine ⟨rfl, Nat.le_refl _, by decide, ?_, .inr ⟨_, _, rfl, by simp, fun j hj => ?_⟩⟩
  · intro n hn
    rcases List.mem_cons.1 hn with rfl | hn
    · exact ha
    rcases List.mem_cons.1 hn with rfl | hn
    · exact hb
    obtain rfl := List.mem_singleton.1 hn
    exact hc
  · rw [World.cell?_alloc_new]
    match j, hj with
    | 0, _ => rfl
    | 1, _ => rfl
    | 2, _ => rfl
theorem sum3 (w : World) : Calls Tryz.prog 5 #[.slice (some ⟨w.heap.size, 0, none⟩) 3 3] (w.alloc (.cells #[.int .i64 9223372036854775807, .int .i64 1, .int .i64 (-9223372036854775808)] 2)) fun e w' => e = .returned (.tuple #[.int .i64 0, .int .i64 0]) ∧ Below w.heap.size w w' :=
  (sum_any _ 3 3 [9223372036854775807, 1, -9223372036854775808] _ (sum_new w _ _ _ (by decide) (by decide) (by decide))).mono fun e w' ⟨he, hb⟩ => ⟨he.trans rfl, bel_trans ((Below.refl _ _).alloc (Nat.le_refl _) _) hb⟩
theorem sum0 (w : World) : Calls Tryz.prog 5 #[.slice none 0 0] w fun e w' => e = .returned (.tuple #[.int .i64 0, .int .i64 0]) ∧ Below w.heap.size w w' := sum_any none 0 0 [] w (intsIn_nil _ _)
theorem mul_ex (w : World) : Calls Tryz.prog 12 #[.int .i64 2147483648, .int .i64 2147483648] w fun e w' => e = .returned (.tuple #[.int .i64 4611686018427387904, .int .i64 0]) ∧ w' = w := mul_any _ _ (by omega) (by omega) w
theorem fee_ex1 (w : World) : Calls Tryz.prog 13 #[.int .i64 10199, .int .i64 25] w fun e w' => e = .returned (.tuple #[.int .i64 25, .int .i64 0]) ∧ Below w.heap.size w w' := fee_low _ _ (by omega) (by omega) (by omega) w
theorem fee_ex2 (w : World) : Calls Tryz.prog 13 #[.int .i64 9999, .int .i64 1] w fun e w' => e = .returned (.tuple #[.int .i64 0, .int .i64 0]) ∧ Below w.heap.size w w' := fee_low _ _ (by omega) (by omega) (by omega) w
theorem is_yes (n e want : Int) (h : isB n e want = true) (w : World) : Calls Tryz.prog 15 #[.int .i64 n, .int .i64 e, .int .i64 want] w fun r w' => r = .returned (.bool true) ∧ w' = w := by
  have := is_any n e want w
  rw [h] at this
  exact this
theorem cap_ex1 (w : World) : Calls Tryz.prog 10 #[.int .i64 4611686018427387904, .int .i64 7] w fun e w' => e = .returned (.int .i64 4611686018427387904) ∧ w' = w := cap_any _ _ w
theorem cap_ex2 (w : World) : Calls Tryz.prog 10 #[.int .i64 (-3), .int .i64 7] w fun e w' => e = .returned (.int .i64 7) ∧ w' = w := cap_any _ _ w
theorem d134 : Lib.decDigits 134 = [49, 51, 52] := by rw [Lib.decDigits, dif_neg (by omega), Lib.decDigits_two (by omega) (by omega)]; rfl
theorem d100 : Lib.decDigits 100 = [49, 48, 48] := by rw [Lib.decDigits, dif_neg (by omega), Lib.decDigits_two (by omega) (by omega)]; rfl
theorem sh1 : shS 1234 = ⟨#[49, 50, 46, 51, 52]⟩ := by
  unfold shS dg
  rw [show (1234 : Int).natAbs / 100 = 12 from rfl, show 100 + (1234 : Int).natAbs % 100 = 134 from rfl, Lib.decDigits_two (i := 12) (by omega) (by omega), d134]
  decide +kernel
theorem sh2 : shS 0 = ⟨#[48, 46, 48, 48]⟩ := by
  unfold shS dg
  rw [show (0 : Int).natAbs / 100 = 0 from rfl, show 100 + (0 : Int).natAbs % 100 = 100 from rfl, Lib.decDigits_one (i := 0) (by omega), d100]
  decide +kernel
theorem show_ex1 (w : World) (h : PowT w) : Calls Tryz.prog 16 #[.int .i64 1234] w fun e w' => e = .returned (.string ⟨#[49, 50, 46, 51, 52]⟩) ∧ Below w.heap.size w w' := by
  have := show_any 1234 (by omega) w h
  rw [sh1] at this
  exact this
theorem show_ex2 (w : World) (h : PowT w) : Calls Tryz.prog 16 #[.int .i64 0] w fun e w' => e = .returned (.string ⟨#[48, 46, 48, 48]⟩) ∧ Below w.heap.size w w' := by
  have := show_any 0 (by omega) w h
  rw [sh2] at this
  exact this

set_option maxRecDepth 20000 in
set_option maxHeartbeats 4000000 in
theorem awake_any (w : World) (hR : RngT w) (hP : PowT w) : Calls Tryz.prog 4 #[] w fun e w' => e = .returned (.bool true) ∧ Below w.heap.size w w' := by
  have HR := Lib.hid hR
  have HP := Lib.hid hP
  have HB0 := Lib.hid (Below.refl w.heap.size w)
  clear hR hP
  go_enter Tryz.func4, Tryz.ntmps4
  go_wp2_with fail
  refine (sum3 _).mono ?_
  rintro e y1 ⟨rfl, hb⟩
  have HB1 := Lib.hid (bel_trans HB0.out hb)
  clear hb HB0
  go_wp2_with fail
  refine (sum0 _).mono ?_
  rintro e y2 ⟨rfl, hb⟩
  have HB2 := Lib.hid (bel_trans HB1.out hb)
  clear hb HB1
  go_wp2_with fail
  refine (mul_ex _).mono ?_
  rintro e y' ⟨rfl, rfl⟩
  go_wp2_with fail
  refine (fee_ex1 _).mono ?_
  rintro e y3 ⟨rfl, hb⟩
  have HB3 := Lib.hid (bel_trans HB2.out hb)
  clear hb HB2
  go_wp2_with fail
  refine (fee_ex2 _).mono ?_
  rintro e y4 ⟨rfl, hb⟩
  have HB4 := Lib.hid (bel_trans HB3.out hb)
  clear hb HB3
  go_wp2_with fail
  refine (parse_ex _ (HR.out.keep HB4.out)).mono ?_
  rintro e y5 ⟨rfl, hb⟩
  have HB5 := Lib.hid (bel_trans HB4.out hb)
  clear hb HB4
  go_wp2_with fail
  refine (is_yes 0 0 0 rfl _).mono ?_
  rintro e y' ⟨rfl, rfl⟩
  go_wp2_with fail
  refine (is_yes 0 0 0 rfl _).mono ?_
  rintro e y' ⟨rfl, rfl⟩
  go_wp2_with fail
  refine (is_yes 4611686018427387904 0 4611686018427387904 rfl _).mono ?_
  rintro e y' ⟨rfl, rfl⟩
  go_wp2_with fail
  refine (is_yes 25 0 25 rfl _).mono ?_
  rintro e y' ⟨rfl, rfl⟩
  go_wp2_with fail
  refine (is_yes 0 0 0 rfl _).mono ?_
  rintro e y' ⟨rfl, rfl⟩
  go_wp2_with fail
  refine (is_yes (-5) 0 (-5) rfl _).mono ?_
  rintro e y' ⟨rfl, rfl⟩
  go_wp2_with fail
  refine (cap_ex1 _).mono ?_
  rintro e y' ⟨rfl, rfl⟩
  go_wp2_with fail
  refine (cap_ex2 _).mono ?_
  rintro e y' ⟨rfl, rfl⟩
  go_wp2_with fail
  refine (show_ex1 _ (HP.out.keep HB5.out)).mono ?_
  rintro e y6 ⟨rfl, hb⟩
  have HB6 := Lib.hid (bel_trans HB5.out hb)
  clear hb HB5
  go_wp2_with fail
  refine (show_ex2 _ (HP.out.keep HB6.out)).mono ?_
  rintro e y7 ⟨rfl, hb⟩
  have HB7 := Lib.hid (bel_trans HB6.out hb)
  clear hb HB6
  go_wp2_with fail
  go_ret
  exact ⟨rfl, HB7.out⟩
end Go.Proofs.YtikjnfghlohjkaaGreatDoor
