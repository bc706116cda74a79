/- The closed facts of souklaw11.awake. -/
import Derived.Test.YtaonjbkkgeiniaaGreatDoorSgO
import Derived.Test.YtaonjbkkgeiniaaGreatDoorSgP
import Derived.Test.YtaonjbkkgeiniaaGreatDoorSgA
namespace Go.Proofs.YtaonjbkkgeiniaaGreatDoor
open Go.RowKit Go.Shelf

set_option maxHeartbeats 1000000 in
theorem next_any (f : Int) (oa : Option Addr) (n cap : Nat) (g : Int) (b : Bool) (w : World) (hf : 0 ≤ f ∧ f ≤ 1000000000) (hn : n ≤ 1000000000) :
    Calls Tryz.prog 27 #[.agg (sgC f (.slice oa n cap) g b)] w fun e w' => e = .returned (.int .i64 (f + n)) ∧ Below w.heap.size w w' := by
  have e1 : IntKind.i64.wrap (f + (n : Int)) = f + (n : Int) := IntWalk.i64_in _ (by omega)
  have hr : (w.alloc (.cells (sgC f (.slice oa n cap) g b) 46)).heap[w.heap.size]? = some (.cells (sgC f (.slice oa n cap) g b) 46) := heap_alloc_new _ _
  have c0 : (w.alloc (.cells (sgC f (.slice oa n cap) g b) 46)).cell? ⟨w.heap.size, 0, none⟩ = some (.int .i64 f) := by rw [cell_of_row _ _ _ _ _ _ hr]; rfl
  have c1 : (w.alloc (.cells (sgC f (.slice oa n cap) g b) 46)).cell? ⟨w.heap.size, 1, none⟩ = some (.slice oa n cap) := by rw [cell_of_row _ _ _ _ _ _ hr]; rfl
  clear hr
  go_enter Tryz.func27, Tryz.ntmps27
  go_wp2_with fail
  go_ret
  exact ⟨rfl, (Below.refl _ _).alloc (Nat.le_refl _) _⟩
theorem strs_of_own {w : World} {B n : Nat} {v : Value} {l : List ByteArray} (h : w.ownsRow B 9 1 v n (stRow l)) (hn : n ≤ 1000000) (hs : ∀ s ∈ l, s.size ≤ 1000000) : ∃ oa c, v = .slice oa n c ∧ StrsIn w oa n c l := by
  obtain ⟨h1, h2⟩ := h
  rw [stRow_len, Nat.mul_one] at h1
  rcases h2 with ⟨rfl, rfl⟩ | ⟨g, c, cur, rfl, h3, h4, h5, h6, h7, h8⟩
  · exact ⟨none, 0, rfl, h1, Nat.le_refl _, Nat.zero_le _, fun s hs' => by have := hs s hs'; omega, .inl rfl⟩
  · refine ⟨_, c, rfl, h1, h5, by omega, fun s hs' => by have := hs s hs'; omega, ?_⟩
    refine .inr ⟨g, 0, rfl, (Array.getElem?_eq_some_iff.1 h4).1, fun j hj => ?_⟩
    rw [Nat.mul_one] at h8
    have h9 : (stRow l)[j]? = some (.string (l.getD j ByteArray.empty)) := by
      unfold stRow
      rw [List.getElem?_map, List.getElem?_eq_getElem (by omega), List.getD_eq_getElem?_getD, List.getElem?_eq_getElem (by omega)]
      rfl
    rw [← h8, List.getElem?_take, if_pos hj, Array.getElem?_toList] at h9
    rw [Nat.zero_add, cell_of_row _ _ _ _ _ _ h4]
    exact h9
end Go.Proofs.YtaonjbkkgeiniaaGreatDoor
