/- souklaw12.works, heavy, head. -/
import Derived.Test.YtmeefecpnfclpaaIdxP
import Derived.Test.YtmeefecpnfclpaaIdxC
import Derived.Test.YtmeefecpnfclpaaB3
namespace Go.Proofs.Ytmeefecpnfclpaa
open Go.RowKit Go.Shelf
attribute [local go_sem] Oper.semAt_some

set_option maxRecDepth 100000 in
set_option maxHeartbeats 4000000 in
theorem works12 (w : World) : Calls Try.prog 9 #[] w fun e w' => e = .returned (.bool true) ∧ Below w.heap.size w w' := by
  have hx := ex_bytes
  have hj := fun w' (h : StrsIn w' (some ⟨w.heap.size, 0, none⟩) 3 3 exZ) => join_any 5 exZ w' h
  rw [ex_jn] at hj
  have hb := fun w' => build_any exS 2 w' (by rw [ex_size]; omega)
  rw [ex_bd, ex_F, ex_P, ex_G] at hb
  have hg1 := fun b w' h => get_any b 2 5 70 [16, 34, 51] exS 6 w' (by omega) (by decide) (by rw [ex_size]; omega) (by decide) h
  rw [ex_get.1, ex_get.2] at hg1
  have hg2 := fun b w' h => get_any b 2 5 70 [16, 34, 51] exS 8 w' (by omega) (by decide) (by rw [ex_size]; omega) (by decide) h
  rw [ex_none] at hg2
  have HJ := Lib.hid hj
  have HB := Lib.hid hb
  have HG1 := Lib.hid hg1
  have HG2 := Lib.hid hg2
  clear hj hb hg1 hg2 hx
  go_enter Try.func9, Try.ntmps9
  go_wp2_with fail
  have hr : (w.alloc (.cells #[.string ⟨#[97, 98]⟩, .string ⟨#[99]⟩, .string ⟨#[100, 101, 102]⟩] 9)).heap[w.heap.size]? = _ := heap_alloc_new _ _
  have hs : StrsIn (w.alloc (.cells #[.string ⟨#[97, 98]⟩, .string ⟨#[99]⟩, .string ⟨#[100, 101, 102]⟩] 9)) (some ⟨w.heap.size, 0, none⟩) 3 3 exZ := by
    refine ⟨rfl, Nat.le_refl _, by decide, by decide, .inr ⟨_, _, rfl, by simp, fun j hj => ?_⟩⟩
    rw [cell_of_row _ _ _ _ _ _ hr]
    match j, hj with
    | 0, _ => rfl
    | 1, _ => rfl
    | 2, _ => rfl
  refine (HJ.out _ hs).mono ?_
  rintro e' w1 ⟨rfl, hb1⟩
  have HB1 := Lib.hid (((Below.refl _ _).alloc (Nat.le_refl _) _).trans (hb1.mono (by simp)))
  rw [show bs (jnL 5 (paysL exZ)) = exS from rfl]
  clear hr hs hb1
  go_wp2_with fail
  refine (HB.out w1).mono ?_
  rintro e' w2 (⟨h, _⟩ | ⟨_, b, rfl, hbb, hix, hb2⟩)
  · exact absurd rfl h
  have HI := Lib.hid (show Ixr w2 b 2 5 [16, 34, 51] 70 from hix)
  have HB2 := Lib.hid (HB1.out.trans (hb2.mono HB1.out.size))
  clear hix hb2
  go_wp2_with fail
  refine (marks_any b 2 5 70 [16, 34, 51] w2 (by omega) (by decide) HI.out).mono ?_
  rintro e' w3 ⟨oa, cap, rfl, hrow, _, hb3⟩
  obtain ⟨g, rfl, hg, _, hc⟩ := mrow_cells hrow (by decide)
  have c0 := hc 0 _ rfl
  have c1 := hc 1 _ rfl
  have c2 := hc 2 _ rfl
  have c3 := hc 3 _ rfl
  have HI3 := Lib.hid (HI.out.keep hb3)
  have HB3 := Lib.hid (HB2.out.trans (hb3.mono HB2.out.size))
  clear hrow hc hb3
  rw [show cntM 2 [16, 34, 51].length = 2 from rfl]
  go_wp2_with fail
  refine (HG1.out b w3 HI3.out).mono ?_
  rintro e' w4 ⟨rfl, hb4⟩
  have HI4 := Lib.hid (HI3.out.keep hb4)
  have HB4 := Lib.hid (HB3.out.trans (hb4.mono HB3.out.size))
  replace c0 := (hb4.cell hg).trans c0
  replace c1 := (hb4.cell hg).trans c1
  replace c2 := (hb4.cell hg).trans c2
  replace c3 := (hb4.cell hg).trans c3
  replace hg := Nat.lt_of_lt_of_le hg hb4.size
  clear hb4
  go_wp2_with fail
  refine (HG2.out b w4 HI4.out).mono ?_
  rintro e' w5 ⟨rfl, hb5⟩
  have HI5 := Lib.hid (HI4.out.keep hb5)
  have HB5 := Lib.hid (HB4.out.trans (hb5.mono HB4.out.size))
  replace c0 := (hb5.cell hg).trans c0
  replace c1 := (hb5.cell hg).trans c1
  replace c2 := (hb5.cell hg).trans c2
  replace c3 := (hb5.cell hg).trans c3
  clear hb5
  generalize gP 2 5 [16, 34, 51] exS.data.toList 8 = p8
  replace c0 : w5.cell? ⟨g, 0, none⟩ = some (.int .i64 5) := c0
  replace c1 : w5.cell? ⟨g, 1, none⟩ = some (.int .i64 16) := c1
  replace c2 : w5.cell? ⟨g, 2, none⟩ = some (.int .i64 7) := c2
  replace c3 : w5.cell? ⟨g, 3, none⟩ = some (.int .i64 51) := c3
  go_wp2_with fail
  refine (ixNext b 2 5 70 [16, 34, 51] w5 HI5.out).mono ?_
  rintro e' w6 ⟨rfl, rfl⟩
  rw [show ((5 + [16, 34, 51].length : Nat) : Int) = 8 from rfl]
  go_wp2_with fail
  refine (ixGood b 2 5 70 [16, 34, 51] w5 HI5.out).mono ?_
  rintro e' w6 ⟨rfl, rfl⟩
  rw [show ((70 : Nat) : Int) = 70 from rfl]
  go_wp2_with fail
  refine (ixFirst b 2 5 70 [16, 34, 51] w5 HI5.out).mono ?_
  rintro e' w6 ⟨rfl, rfl⟩
  rw [show ((5 : Nat) : Int) = 5 from rfl]
  go_wp2_with fail
  refine (steps_yes b 2 5 70 [16, 34, 51] 6 w5 (by omega) (by decide) HI5.out (by omega) (by decide)).mono ?_
  rintro e' w6 ⟨rfl, hb6⟩
  rw [show (((6 - 5) % 2 + 1 : Nat) : Int) = 2 from rfl]
  have HB6 := Lib.hid (HB5.out.trans (hb6.mono HB5.out.size))
  clear hb6
  go_wp2_with fail
  go_ret
  exact ⟨rfl, HB6.out⟩

end Go.Proofs.Ytmeefecpnfclpaa
