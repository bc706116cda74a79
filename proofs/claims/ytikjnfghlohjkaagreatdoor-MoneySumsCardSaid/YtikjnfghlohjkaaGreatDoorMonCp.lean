/- soukref03.Cap. -/
import Derived.Test.YtikjnfghlohjkaaGreatDoorMonSm
namespace Go.Proofs.YtikjnfghlohjkaaGreatDoor
open Go.RowKit

/-- the two numbers, so many of them already within -/
def cpX (a : Int) (k i : Nat) : Int := if i < k then wthn a else a
theorem cpX_at (a : Int) (i : Nat) : cpX a i i = a := by unfold cpX; rw [if_neg (Nat.lt_irrefl _)]
theorem cpX_in (a : Int) (i : Nat) : cpX a (i + 1) i = wthn a := by unfold cpX; rw [if_pos (Nat.lt_succ_self _)]
theorem wthn_lo {a : Int} (h : a < 0) : wthn a = 0 := by unfold wthn; rw [if_pos h]
theorem wthn_hi {a : Int} (h : 4611686018427387904 < a) : wthn a = 4611686018427387904 := by unfold wthn; rw [if_neg (by omega), if_pos h]
theorem wthn_mid {a : Int} (h1 : ¬ a < 0) (h2 : ¬ 4611686018427387904 < a) : wthn a = a := by unfold wthn; rw [if_neg h1, if_neg h2]

set_option maxHeartbeats 2000000 in
theorem rcap_any (a b : Int) (ha : -9223372036854775808 ≤ a ∧ a ≤ 9223372036854775807) (hb : -9223372036854775808 ≤ b ∧ b ≤ 9223372036854775807) (w : World) :
    Calls Tryz.prog 11 #[.int .i64 a, .int .i64 b] w fun e w' => e = .returned (.int .i64 (capV a b)) ∧ Below w.heap.size w w' := by
  have hwa := wthn_in a
  have hwb := wthn_in b
  have HA := Lib.hid ha
  have HB0 := Lib.hid hb
  clear ha hb
  go_enter Tryz.func11, Tryz.ntmps11
  go_wp2_with fail
  obtain ⟨g, eg⟩ : ∃ g, w.heap.size = g := ⟨_, rfl⟩
  obtain ⟨W0, eW⟩ : ∃ W0, w.alloc (.cells #[.int .i64 a, .int .i64 b] 2) = W0 := ⟨_, rfl⟩
  have hr0 : W0.heap[g]? = some (.cells #[.int .i64 a, .int .i64 b] 2) := by rw [← eW, ← eg]; exact heap_alloc_new _ _
  have hb0 : Below w.heap.size w W0 := by rw [← eW]; exact (Below.refl _ _).alloc (Nat.le_refl _) _
  have HG := Lib.hid eg
  rw [eW, eg]
  clear eW eg
  have HR0 := Lib.hid hr0
  have HB1 := Lib.hid hb0
  clear hr0 hb0
  go_loopw [6] (fun iv wr => ∃ k : Nat, k ≤ 2 ∧ iv = .int .i64 k ∧ wr.heap[g]? = some (.cells #[.int .i64 (cpX a k 0), .int .i64 (cpX b k 1)] 2) ∧ Below w.heap.size w wr) (fun iv _ => 2 - (intOf iv).toNat)
  case atStart => exact ⟨0, by omega, rfl, HR0.out, HB1.out⟩
  case round =>
    obtain ⟨k, hk, rfl, hr, hbw⟩ := hrel
    have hk3 : k = 0 ∨ k = 1 ∨ k = 2 := by omega
    rcases hk3 with rfl | rfl | rfl
    · have e0 : cpX a 0 0 = a := rfl
      have e1 : cpX b 0 1 = b := rfl
      rw [e0, e1] at hr
      clear e0 e1
      have c0 : wr.cell? ⟨g, 0, none⟩ = some (.int .i64 a) := by rw [cell_of_row _ _ _ _ _ _ hr]; rfl
      have f0 : wr.frozen? ⟨g, 0, none⟩ = false := frozen_of_row _ _ _ _ _ hr
      have HR := Lib.hid hr
      have HBW := Lib.hid hbw
      clear hr hbw
      by_cases h1 : a < 0
      · have d1 : decide (a < 0) = true := decide_eq_true h1
        have HW := Lib.hid (wthn_lo h1)
        have c1 : (wr.setCell ⟨g, 0, none⟩ (.int .i64 0)).cell? ⟨g, 0, none⟩ = some (.int .i64 0) := by rw [cell_of_row _ _ _ _ _ _ (heap_setCell_same _ _ 0 _ _ (.int .i64 0) HR.out)]; rfl
        clear h1
        go_wp2_with fail
        go_roundw
        case rel =>
          refine ⟨1, by omega, rfl, ?_, HBW.out.setCell (by show w.heap.size ≤ g; rw [HG.out]; exact Nat.le_refl _) _⟩
          have := heap_setCell_same _ _ 0 _ _ (.int .i64 0) HR.out
          rw [this, show cpX a 1 0 = wthn a from cpX_in a 0, show cpX b 1 1 = b from cpX_at b 1, HW.out]
          rfl
        case measure => simp [intOf]
      have d1 : decide (a < 0) = false := decide_eq_false h1
      by_cases h2 : 4611686018427387904 < a
      · have d2 : decide ((4611686018427387904 : Int) < a) = true := decide_eq_true h2
        have HW := Lib.hid (wthn_hi h2)
        clear h1 h2
        go_wp2_with fail
        go_roundw
        case rel =>
          refine ⟨1, by omega, rfl, ?_, HBW.out.setCell (by show w.heap.size ≤ g; rw [HG.out]; exact Nat.le_refl _) _⟩
          have := heap_setCell_same _ _ 0 _ _ (.int .i64 4611686018427387904) HR.out
          rw [this, show cpX a 1 0 = wthn a from cpX_in a 0, show cpX b 1 1 = b from cpX_at b 1, HW.out]
          rfl
        case measure => simp [intOf]
      have d2 : decide ((4611686018427387904 : Int) < a) = false := decide_eq_false h2
      have HW := Lib.hid (wthn_mid h1 h2)
      clear h1 h2
      go_wp2_with fail
      go_roundw
      case rel =>
        refine ⟨1, by omega, rfl, ?_, HBW.out⟩
        rw [show cpX a 1 0 = wthn a from cpX_in a 0, show cpX b 1 1 = b from cpX_at b 1, HW.out]
        exact HR.out
      case measure => simp [intOf]
    · have e0 : cpX a 1 0 = wthn a := cpX_in a 0
      have e1 : cpX b 1 1 = b := cpX_at b 1
      rw [e0, e1] at hr
      clear e0 e1
      have c0 : wr.cell? ⟨g, 1, none⟩ = some (.int .i64 b) := by rw [cell_of_row _ _ _ _ _ _ hr]; rfl
      have f0 : wr.frozen? ⟨g, 1, none⟩ = false := frozen_of_row _ _ _ _ _ hr
      have HR := Lib.hid hr
      have HBW := Lib.hid hbw
      clear hr hbw
      by_cases h1 : b < 0
      · have d1 : decide (b < 0) = true := decide_eq_true h1
        have HW := Lib.hid (wthn_lo h1)
        have c1 : (wr.setCell ⟨g, 1, none⟩ (.int .i64 0)).cell? ⟨g, 1, none⟩ = some (.int .i64 0) := by rw [cell_of_row _ _ _ _ _ _ (heap_setCell_same _ _ 1 _ _ (.int .i64 0) HR.out)]; rfl
        clear h1
        go_wp2_with fail
        go_roundw
        case rel =>
          refine ⟨2, by omega, rfl, ?_, HBW.out.setCell (by show w.heap.size ≤ g; rw [HG.out]; exact Nat.le_refl _) _⟩
          have := heap_setCell_same _ _ 1 _ _ (.int .i64 0) HR.out
          rw [this, show cpX a 2 0 = wthn a from rfl, show cpX b 2 1 = wthn b from cpX_in b 1, HW.out]
          rfl
        case measure => simp [intOf]
      have d1 : decide (b < 0) = false := decide_eq_false h1
      by_cases h2 : 4611686018427387904 < b
      · have d2 : decide ((4611686018427387904 : Int) < b) = true := decide_eq_true h2
        have HW := Lib.hid (wthn_hi h2)
        clear h1 h2
        go_wp2_with fail
        go_roundw
        case rel =>
          refine ⟨2, by omega, rfl, ?_, HBW.out.setCell (by show w.heap.size ≤ g; rw [HG.out]; exact Nat.le_refl _) _⟩
          have := heap_setCell_same _ _ 1 _ _ (.int .i64 4611686018427387904) HR.out
          rw [this, show cpX a 2 0 = wthn a from rfl, show cpX b 2 1 = wthn b from cpX_in b 1, HW.out]
          rfl
        case measure => simp [intOf]
      have d2 : decide ((4611686018427387904 : Int) < b) = false := decide_eq_false h2
      have HW := Lib.hid (wthn_mid h1 h2)
      clear h1 h2
      go_wp2_with fail
      go_roundw
      case rel =>
        refine ⟨2, by omega, rfl, ?_, HBW.out⟩
        rw [show cpX a 2 0 = wthn a from rfl, show cpX b 2 1 = wthn b from cpX_in b 1, HW.out]
        exact HR.out
      case measure => simp [intOf]
    · have e0 : cpX a 2 0 = wthn a := rfl
      have e1 : cpX b 2 1 = wthn b := cpX_in b 1
      rw [e0, e1] at hr
      have hin : IntsIn .i64 wr (some ⟨g, 0, none⟩) 2 2 [wthn a, wthn b] := by
        refine ⟨rfl, Nat.le_refl _, by decide, fun n hn => ?_, .inr ⟨g, 0, rfl, (Array.getElem?_eq_some_iff.1 hr).1, fun j hj => ?_⟩⟩
        · rcases List.mem_cons.1 hn with rfl | hn
          · simp [Lit.wf, IntKind.min, IntKind.max, IntKind.signed, IntKind.bits]; omega
          · obtain rfl := List.mem_singleton.1 hn
            simp [Lit.wf, IntKind.min, IntKind.max, IntKind.signed, IntKind.bits]; omega
        · rw [Nat.zero_add, cell_of_row _ _ _ _ _ _ hr]
          have : j = 0 ∨ j = 1 := by omega
          rcases this with rfl | rfl <;> rfl
      have hs : sm [wthn a, wthn b] = wthn a + wthn b := by rw [sm_cons, sm_cons]; show _ + (_ + 0) = _; omega
      have K := rsum_all (some ⟨g, 0, none⟩) 2 2 _ wr hin (by omega)
      rw [hs] at K
      by_cases hf : 4611686018427387904 < wthn a + wthn b
      · have hv : toldV (wthn a + wthn b) = 0 := by unfold toldV; rw [if_neg (by omega)]
        have he : toldE (wthn a + wthn b) = 41 := by unfold toldE; rw [if_neg (by omega)]
        rw [hv, he] at K
        have KK := Lib.hid K
        have HE := Lib.hid (show capV a b = 4611686018427387904 by unfold capV; rw [if_pos hf])
        have HBW := Lib.hid hbw
        clear e0 e1 hr hin hs K hf hv he hbw
        go_wp2_with fail
        refine (KK.out).mono ?_
        rintro e w1 ⟨rfl, hb⟩
        have HB2 := Lib.hid (HBW.out.trans (hb.mono HBW.out.size))
        clear hb
        go_wp2_with fail
        go_ret
        exact ⟨ret_int (by rw [HE.out]), HB2.out⟩
      · have hv : toldV (wthn a + wthn b) = wthn a + wthn b := by unfold toldV; rw [if_pos (by omega)]
        have he : toldE (wthn a + wthn b) = 0 := by unfold toldE; rw [if_pos (by omega)]
        rw [hv, he] at K
        have KK := Lib.hid K
        have HE := Lib.hid (show capV a b = wthn a + wthn b by unfold capV; rw [if_neg hf])
        have HBW := Lib.hid hbw
        clear e0 e1 hr hin hs K hf hv he hbw
        go_wp2_with fail
        refine (KK.out).mono ?_
        rintro e w1 ⟨rfl, hb⟩
        have HB2 := Lib.hid (HBW.out.trans (hb.mono HBW.out.size))
        clear hb
        go_wp2_with fail
        go_ret
        exact ⟨ret_int (by rw [HE.out]), HB2.out⟩
end Go.Proofs.YtikjnfghlohjkaaGreatDoor
