/- Walks over package seg: Scan. -/
import Derived.Test.YtaonjbkkgeiniaaGreatDoorSegW
import Derived.Test.YtaonjbkkgeiniaaGreatDoorB2
namespace Go.Proofs.YtaonjbkkgeiniaaGreatDoor
open Go.RowKit

theorem sg_size : (Tryz.prog.info? 46).map (·.size) = some 4 := by kernel_rfl
def sgC (f : Int) (v : Value) (g : Int) (b : Bool) : Array Value := #[.int .i64 f, v, .int .i64 g, .bool b]
theorem results_seg (tmps : Array Value) (w : World) (p : Nat) (f : Int) (v : Value) (g : Int) (b : Bool) (u : Value) (hp : tmps.getD 2 undef = .pointer (some ⟨p, 0, none⟩)) (hg : w.heap[p]? = some (.cells (sgC f v g b) 46)) (hu : tmps.getD 3 undef = u) :
    (results Tryz.f26 tmps).run Tryz.prog w = .ok (.tuple #[.agg (sgC f v g b), u]) w := by
  have hp' : tmps[2]?.getD undef = .pointer (some ⟨p, 0, none⟩) := by simpa using hp
  subst hu
  simp [results, hp', asAddr, run_loadVar_row w p 46 46 (sgC f v g b) (0, 0) _ hg Tryz.underlying46 rfl (by exact sg_size)]
theorem sg_cells {w : World} {p : Nat} {f g : Int} {v : Value} {b : Bool} (h : w.heap[p]? = some (.cells (sgC f v g b) 46)) :
    w.cell? ⟨p, 0, none⟩ = some (.int .i64 f) ∧ w.cell? ⟨p, 1, none⟩ = some v ∧ w.cell? ⟨p, 2, none⟩ = some (.int .i64 g) ∧ w.cell? ⟨p, 3, none⟩ = some (.bool b) ∧ ∀ j, w.frozen? ⟨p, j, none⟩ = false :=
  ⟨by rw [cell_of_row _ _ _ _ _ _ h]; rfl, by rw [cell_of_row _ _ _ _ _ _ h]; rfl, by rw [cell_of_row _ _ _ _ _ _ h]; rfl, by rw [cell_of_row _ _ _ _ _ _ h]; rfl, fun j => frozen_of_row _ _ _ _ _ h⟩
theorem sg_stored {w : World} {p : Nat} {f0 g0 f g : Int} {v0 v : Value} {b0 b : Bool} (h : w.heap[p]? = some (.cells (sgC f0 v0 g0 b0) 46)) :
    ((((w.setCell ⟨p, 0, none⟩ (.int .i64 f)).setCell ⟨p, 1, none⟩ v).setCell ⟨p, 2, none⟩ (.int .i64 g)).setCell ⟨p, 3, none⟩ (.bool b)).heap[p]? = some (.cells (sgC f v g b) 46) := by
  have k0 := heap_setCell_same _ _ 0 _ _ (.int .i64 f) h
  have k1 := heap_setCell_same _ _ 1 _ _ v k0
  have k2 := heap_setCell_same _ _ 2 _ _ (.int .i64 g) k1
  exact heap_setCell_same _ _ 3 _ _ (.bool b) k2
theorem sg_below {w w' : World} {p : Nat} (h : Below p w w') (a b c d : Value) : Below p w ((((w'.setCell ⟨p, 0, none⟩ a).setCell ⟨p, 1, none⟩ b).setCell ⟨p, 2, none⟩ c).setCell ⟨p, 3, none⟩ d) :=
  (((h.setCell (p := ⟨p, 0, none⟩) (Nat.le_refl _) _).setCell (p := ⟨p, 1, none⟩) (Nat.le_refl _) _).setCell (p := ⟨p, 2, none⟩) (Nat.le_refl _) _).setCell (p := ⟨p, 3, none⟩) (Nat.le_refl _) _

def sgZero : Array Value := sgC 0 (.slice none 0 0) 0 false

set_option maxHeartbeats 1000000 in
theorem sscan_bad (s : ByteArray) (w : World) (h : hdE s.data.toList ≠ 0) :
    Calls Tryz.prog 26 #[.string s] w fun e w' => e = .returned (.tuple #[.agg sgZero, .int .i64 (hdE s.data.toList)]) ∧ Below w.heap.size w w' := by
  have hf := fun w => first_any s w
  unfold hdV at hf
  simp only [if_neg h] at hf
  obtain ⟨E, hE⟩ : ∃ E, hdE s.data.toList = E := ⟨_, rfl⟩
  rw [hE] at hf h ⊢
  have d1 : ((E : Int) != 0) = true := by rw [bne_iff_ne]; omega
  have HF := Lib.hid hf
  clear hf hE h
  go_enter Tryz.func26, Tryz.ntmps26
  go_wp2_with fail
  refine (HF.out _).mono ?_
  rintro e w1 ⟨rfl, hb1⟩
  have hblk : w1.heap[w.heap.size]? = some (.cells sgZero 46) := (hb1.block _ (by simp)).trans (heap_alloc_new _ _)
  obtain ⟨z0, z1, z2, z3, zf⟩ := sg_cells hblk
  have f0 := zf 0
  have f1 := zf 1
  have f2 := zf 2
  have f3 := zf 3
  have HB := Lib.hid hblk
  have HW := Lib.hid (((Below.refl _ _).alloc (Nat.le_refl _) (.cells sgZero 46)).trans (hb1.mono (by simp)) : Below w.heap.size w w1)
  clear hblk zf hb1
  go_wp2_with fail
  refine bodyPost_ret_by (results_seg _ _ w.heap.size 0 (.slice none 0 0) 0 false _ rfl (sg_stored HB.out) rfl) rfl ⟨rfl, sg_below HW.out _ _ _ _⟩

set_option maxHeartbeats 1000000 in
theorem sscan_ok (s : ByteArray) (w : World) (hs : s.size ≤ 1000000) (h : hdE s.data.toList = 0) :
    Calls Tryz.prog 26 #[.string s] w fun e w' => ∃ oa cap, e = .returned (.tuple #[.agg (sgC (hdF s.data.toList) (.slice oa (scanL s.data.toList 16 (hdF s.data.toList)).length cap) (scanG s.data.toList 16 (hdF s.data.toList)) (decide (scanG s.data.toList 16 (hdF s.data.toList) = s.size))), .int .i64 0]) ∧
      w'.ownsRow w.heap.size 60 3 (.slice oa (scanL s.data.toList 16 (hdF s.data.toList)).length cap) (scanL s.data.toList 16 (hdF s.data.toList)).length (frRow s (scanL s.data.toList 16 (hdF s.data.toList))) ∧ Below w.heap.size w w' := by
  have hf := fun w => first_any s w
  unfold hdV at hf
  simp only [if_pos h] at hf
  have hsc := fun w => scan_any s 16 (hdF s.data.toList) w hs
  generalize hdF s.data.toList = F at hf hsc ⊢
  generalize frRow s (scanL s.data.toList 16 F) = X at hsc ⊢
  generalize (scanL s.data.toList 16 F).length = n at hsc ⊢
  generalize scanG s.data.toList 16 F = G at hsc ⊢
  have HF := Lib.hid hf
  have HS := Lib.hid hsc
  clear hf hsc h
  go_enter Tryz.func26, Tryz.ntmps26
  go_wp2_with fail
  refine (HF.out _).mono ?_
  rintro e w1 ⟨rfl, hb1⟩
  go_wp2_with fail
  refine (HS.out _).mono ?_
  rintro e w2 ⟨v, rfl, ho, hb2⟩
  obtain ⟨oa, cap, rfl⟩ : ∃ oa cap, v = .slice oa n cap := by
    rcases ho.2 with ⟨rfl, rfl⟩ | ⟨g, c, cur, rfl, _⟩
    · exact ⟨none, 0, rfl⟩
    · exact ⟨_, _, rfl⟩
  have hb := bel_trans hb1 hb2
  have hblk : w2.heap[w.heap.size]? = some (.cells sgZero 46) := (hb.block _ (by simp)).trans (heap_alloc_new _ _)
  obtain ⟨z0, z1, z2, z3, zf⟩ := sg_cells hblk
  have f0 := zf 0
  have f1 := zf 1
  have f2 := zf 2
  have f3 := zf 3
  have HB := Lib.hid hblk
  have hz1 : w.heap.size + 1 ≤ w1.heap.size := by have := hb1.size; simpa using this
  have HW := Lib.hid (((Below.refl _ _).alloc (Nat.le_refl _) (.cells sgZero 46)).trans (hb.mono (by simp)) : Below w.heap.size w w2)
  have HO := Lib.hid (show w2.ownsRow (w.heap.size + 1) 60 3 (.slice oa n cap) n X from ⟨ho.1, ho.2.imp id (fun ⟨g, c, cur, e1, e2, e3⟩ => ⟨g, c, cur, e1, by omega, e3⟩)⟩)
  clear hblk zf hb1 hb2 hb ho hz1
  go_wp2_with fail
  refine bodyPost_ret_by (results_seg _ _ w.heap.size F _ G _ (.int .i64 0) rfl (sg_stored HB.out) rfl) rfl ⟨oa, cap, by rw [show ((G : Int) == (s.size : Int)) = decide (G = s.size) by rw [Bool.eq_iff_iff, beq_iff_eq, decide_eq_true_iff]; omega], ?_, sg_below HW.out _ _ _ _⟩
  refine ownsRow_mono (B' := 1) ?_
  exact ownsRow_setCell_below (ownsRow_setCell_below (ownsRow_setCell_below (ownsRow_setCell_below HO.out (a := ⟨w.heap.size, 0, none⟩) (Nat.lt_succ_self _) _) (a := ⟨w.heap.size, 1, none⟩) (Nat.lt_succ_self _) _) (a := ⟨w.heap.size, 2, none⟩) (Nat.lt_succ_self _) _) (a := ⟨w.heap.size, 3, none⟩) (Nat.lt_succ_self _) _

end Go.Proofs.YtaonjbkkgeiniaaGreatDoor
