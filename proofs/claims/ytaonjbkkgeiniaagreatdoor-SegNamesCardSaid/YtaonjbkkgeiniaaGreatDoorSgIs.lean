/- souklaw11.is: the segment told is the document's, and is written over. -/
import Derived.Test.YtaonjbkkgeiniaaGreatDoorSgA
import Derived.Test.YtaonjbkkgeiniaaGreatDoorSgC
import Derived.Test.YtaonjbkkgeiniaaGreatDoorRSeg
import Derived.BigQuiet
import Derived.Deep.QuietTactic
namespace Go.Proofs.YtaonjbkkgeiniaaGreatDoor
open Go.RowKit

/-- the row's triples -/
def triX (X : List Value) (n : Nat) : Prop := ∀ i, i < n → ∃ (q : Int) (p : ByteArray) (a : Int), X[i * 3]? = some (.int .i64 q) ∧ X[i * 3 + 1]? = some (.string p) ∧ X[i * 3 + 2]? = some (.int .i64 a)
theorem tri_row (s : ByteArray) : ∀ (ps : List Nat), triX (frRow s ps) ps.length := by
  intro ps
  induction ps with
  | nil => intro i h; cases h
  | cons p ps ih =>
    intro i h
    have e : frRow s (p :: ps) = (frCells (fQ s.data.toList p) (bs (sl s.data.toList (p + 16) (fN s.data.toList p))) p).toList ++ frRow s ps := rfl
    have e3 : (frCells (fQ s.data.toList p) (bs (sl s.data.toList (p + 16) (fN s.data.toList p))) p).toList.length = 3 := rfl
    cases i with
    | zero => exact ⟨_, _, _, rfl, rfl, rfl⟩
    | succ i =>
      obtain ⟨a, b, c, h1, h2, h3⟩ := ih i (by rw [List.length_cons] at h; omega)
      refine ⟨a, b, c, ?_, ?_, ?_⟩
      · rw [e, List.getElem?_append_right (by rw [e3]; omega), e3, show (i + 1) * 3 - 3 = i * 3 by omega]; exact h1
      · rw [e, List.getElem?_append_right (by rw [e3]; omega), e3, show (i + 1) * 3 + 1 - 3 = i * 3 + 1 by omega]; exact h2
      · rw [e, List.getElem?_append_right (by rw [e3]; omega), e3, show (i + 1) * 3 + 2 - 3 = i * 3 + 2 by omega]; exact h3
/-- the rows, from i on as they were -/
def unsp (B S : Nat) (wr : World) (oa : Option Addr) (n : Nat) (X : List Value) (i : Nat) : Prop :=
  n = 0 ∨ ∃ g arr, oa = some ⟨g, 0, none⟩ ∧ B ≤ g ∧ g < S ∧ wr.heap[g]? = some (.cells arr 60) ∧ ∀ j, i * 3 ≤ j → j < n * 3 → arr[j]? = X[j]?
theorem unsp_of {w : World} {B B' n cap : Nat} {oa : Option Addr} {X : List Value} (h : w.ownsRow B' 60 3 (.slice oa n cap) n X) (hB : B ≤ B') : unsp B w.heap.size w oa n X 0 := by
  rcases h.2 with ⟨_, h0⟩ | ⟨g, c, cur, hv, hg, hc, hn, _, hs, ht⟩
  · exact .inl h0
  · obtain ⟨rfl, _, _⟩ := Value.slice.inj hv
    refine .inr ⟨g, cur, rfl, by omega, (Array.getElem?_eq_some_iff.1 hc).1, hc, fun j _ hj => ?_⟩
    rw [← ht, List.getElem?_take, if_pos hj, Array.getElem?_toList]
theorem unsp_keep {B S n i : Nat} {oa : Option Addr} {X : List Value} {w w' : World} (h : unsp B S w oa n X i) (hk : ∀ g, B ≤ g → g < S → w'.heap[g]? = w.heap[g]?) : unsp B S w' oa n X i := by
  rcases h with h | ⟨g, arr, h1, h2, h3, h4, h5⟩
  · exact .inl h
  · exact .inr ⟨g, arr, h1, h2, h3, (hk g h2 h3).trans h4, h5⟩
set_option maxRecDepth 100000 in
set_option maxHeartbeats 2000000 in
theorem is_any (F G : Int) (W : Bool) (n : Nat) (oa ob : Option Addr) (ca cb : Nat) (X : List Value) (w1 w : World) (B0 B1 : Nat)
    (hX : triX X n) (hn : n ≤ 1000000) (hx : w.ownsRow B1 60 3 (.slice oa n ca) n X) (hB : w1.heap.size ≤ B1)
    (hy : w1.ownsRow B0 95 3 (.slice ob n cb) n X) (hb : Below w1.heap.size w1 w) :
    Calls Tryz.prog 28 #[.agg #[.int .i64 F, .slice oa n ca, .int .i64 G, .bool W], .agg #[.int .i64 F, .slice ob n cb, .int .i64 G, .bool W]] w fun e w' => e = .returned (.bool true) ∧ Below w1.heap.size w1 w' ∧ ∀ k, k < w.heap.size → (∀ g, oa = some ⟨g, 0, none⟩ → k ≠ g) → w'.heap[k]? = w.heap[k]? := by
  have HX := Lib.hid hX
  have HU := Lib.hid (unsp_of hx hB)
  have HY := Lib.hid hy
  have HB := Lib.hid hb
  clear hX hx hy hb
  go_enter Tryz.func28, Tryz.ntmps28
  go_wp2_with fail
  go_loopw [5] (fun iv wr => ∃ i : Nat, i ≤ n ∧ iv = .int .i64 i ∧ Below w1.heap.size w1 wr ∧ wr.heap[w.heap.size]? = some (.cells #[.int .i64 F, .slice oa n ca, .int .i64 G, .bool W] 46) ∧ wr.heap[w.heap.size + 1]? = some (.cells #[.int .i64 F, .slice ob n cb, .int .i64 G, .bool W] 41) ∧ unsp w1.heap.size w.heap.size wr oa n X i ∧ ∀ k, k < w.heap.size → (∀ g, oa = some ⟨g, 0, none⟩ → k ≠ g) → wr.heap[k]? = w.heap[k]?) (fun iv _ => n - (intOf iv).toNat)
  case atStart =>
    have hs := HB.out.size
    refine ⟨0, Nat.zero_le _, rfl, (HB.out.alloc hs _).alloc (by simp; omega) _, ?_, ?_, unsp_keep HU.out fun g _ hg => ?_, fun k hk _ => (Below.heap_alloc _ _ _ (by simp; omega)).trans (Below.heap_alloc _ _ _ hk)⟩
    · exact (Below.heap_alloc _ _ _ (by simp)).trans (heap_alloc_new _ _)
    · have := heap_alloc_new (w.alloc (.cells #[.int .i64 F, .slice oa n ca, .int .i64 G, .bool W] 46)) (.cells #[.int .i64 F, .slice ob n cb, .int .i64 G, .bool W] 41)
      simpa using this
    · exact (Below.heap_alloc _ _ _ (by simp; omega)).trans (Below.heap_alloc _ _ _ hg)
  case round =>
    obtain ⟨i, hi, rfl, hbl, hx, hy, hu, hk⟩ := hrel
    have HK := Lib.hid hk
    clear hk
    have x1 : wr.cell? ⟨w.heap.size, 1, none⟩ = some (.slice oa n ca) := by rw [cell_of_row _ _ _ _ _ _ hx]; rfl
    have y1 : wr.cell? ⟨w.heap.size + 1, 1, none⟩ = some (.slice ob n cb) := by rw [cell_of_row _ _ _ _ _ _ hy]; rfl
    by_cases hin : i < n
    case neg =>
      obtain rfl : i = n := by omega
      have HBL := Lib.hid hbl
      clear hbl hx hy hu hin
      go_wp2_with fail
      go_ret
      exact ⟨rfl, HBL.out, HK.out⟩
    rcases hu with hu | ⟨g, arr, rfl, hg1, hg2, hga, hgx⟩
    · omega
    obtain ⟨q, p, a, e0, e1, e2⟩ := HX.out i hin
    obtain ⟨g', rfl, hg', hrc⟩ := rrow_cells HY.out (by omega)
    have p0 : wr.cell? ⟨g, i * 3, none⟩ = some (.int .i64 q) := by rw [cell_of_row _ _ _ _ _ _ hga, hgx _ (by omega) (by omega), e0]
    have p1 : wr.cell? ⟨g, i * 3 + 1, none⟩ = some (.string p) := by rw [cell_of_row _ _ _ _ _ _ hga, hgx _ (by omega) (by omega), e1]
    have p2 : wr.cell? ⟨g, i * 3 + 2, none⟩ = some (.int .i64 a) := by rw [cell_of_row _ _ _ _ _ _ hga, hgx _ (by omega) (by omega), e2]
    have q0 := (hbl.cell (p := ⟨g', i * 3, none⟩) hg').trans (hrc _ _ e0)
    have q1 := (hbl.cell (p := ⟨g', i * 3 + 1, none⟩) hg').trans (hrc _ _ e1)
    have q2 := (hbl.cell (p := ⟨g', i * 3 + 2, none⟩) hg').trans (hrc _ _ e2)
    have pf : ∀ j, wr.frozen? ⟨g, j, none⟩ = false := fun j => frozen_of_row _ _ _ _ _ hga
    have f1 := pf (i * 3 + 1)
    have hd1 : decide ((i : Int) < (n : Int)) = true := decide_eq_true (by omega)
    have HBL := Lib.hid hbl
    have HX1 := Lib.hid hx
    have HY1 := Lib.hid hy
    have HGA := Lib.hid hga
    have HGX := Lib.hid hgx
    have HIN := Lib.hid hin
    clear hbl hx hy hga hgx hin hrc e0 e1 e2 pf
    go_wp2_with fail
    go_quiet (fail)
    go_wp2_with fail
    go_roundw
    case rel =>
      refine ⟨i + 1, HIN.out, by go_num, (below_drewN HBL.out _).setCell hg1 _, ?_, ?_, .inr ⟨g, arr.setIfInBounds (i * 3 + 1) (.string ⟨#[115, 112, 111, 105, 108, 116]⟩), rfl, hg1, hg2, ?_, fun j h1 h2 => ?_⟩, fun k h1 h2 => ?_⟩
      · rw [heap_setCell_ne' _ _ _ (show w.heap.size ≠ g by omega)]; exact HX1.out
      · rw [heap_setCell_ne' _ _ _ (show w.heap.size + 1 ≠ g by omega)]; exact HY1.out
      · exact heap_setCell_same _ _ _ _ _ _ HGA.out
      · rw [Array.getElem?_setIfInBounds_ne (by omega)]; exact HGX.out j (by omega) h2
      · rw [heap_setCell_ne' _ _ _ (show k ≠ g from h2 g rfl)]; exact HK.out k h1 h2
    case measure => simp [intOf]; omega
end Go.Proofs.YtaonjbkkgeiniaaGreatDoor
