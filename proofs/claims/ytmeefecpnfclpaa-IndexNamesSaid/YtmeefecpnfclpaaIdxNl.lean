/- Methods on a nil index; souklaw12.head. -/
import Derived.Test.YtmeefecpnfclpaaIdxE
import Derived.Test.YtmeefecpnfclpaaIdxD
namespace Go.Proofs.Ytmeefecpnfclpaa
open Go.RowKit Go.Shelf
attribute [local go_sem] Oper.semAt_some

set_option maxHeartbeats 400000 in
theorem nilFirst (w : World) : Calls Try.prog 23 #[.pointer none] w fun e w' => e = .returned (.int .i64 0) ∧ w = w' := by
  go_enter Try.func23, Try.ntmps23
  go_wp2_with fail
  go_ret
  exact ⟨rfl, rfl⟩
set_option maxHeartbeats 400000 in
theorem nilNext (w : World) : Calls Try.prog 21 #[.pointer none] w fun e w' => e = .returned (.int .i64 0) ∧ w = w' := by
  go_enter Try.func21, Try.ntmps21
  go_wp2_with fail
  go_ret
  exact ⟨rfl, rfl⟩
set_option maxHeartbeats 400000 in
theorem nilGood (w : World) : Calls Try.prog 20 #[.pointer none] w fun e w' => e = .returned (.int .i64 0) ∧ w = w' := by
  go_enter Try.func20, Try.ntmps20
  go_wp2_with fail
  go_ret
  exact ⟨rfl, rfl⟩
set_option maxHeartbeats 400000 in
theorem nilMarks (w : World) : Calls Try.prog 18 #[.pointer none] w fun e w' => e = .returned (.slice none 0 0) ∧ w = w' := by
  go_enter Try.func18, Try.ntmps18
  go_wp2_with fail
  go_ret
  exact ⟨rfl, rfl⟩
set_option maxHeartbeats 400000 in
theorem nilCopy (w : World) : Calls Try.prog 26 #[.pointer none] w fun e w' => e = .returned (.pointer none) ∧ w = w' := by
  go_enter Try.func26, Try.ntmps26
  go_wp2_with fail
  go_ret
  exact ⟨rfl, rfl⟩
set_option maxHeartbeats 400000 in
theorem nilAdd (n : Int) (w : World) : Calls Try.prog 24 #[.pointer none, .int .i64 n] w fun e w' => e = .returned (.tuple #[.int .i64 0, .int .i64 2]) ∧ w = w' := by
  go_enter Try.func24, Try.ntmps24
  go_wp2_with fail
  go_ret2
  exact ⟨rfl, rfl⟩
set_option maxHeartbeats 400000 in
theorem nilFrom (q : Int) (w : World) : Calls Try.prog 32 #[.pointer none, .int .i64 q] w fun e w' => e = .returned (.tuple #[.agg #[.int .i64 0, .int .i64 0], .bool false]) ∧ Below w.heap.size w w' := by
  have z := mk_cells (heap_alloc_new w (.cells #[.int .i64 0, .int .i64 0] 44))
  obtain ⟨z0, z1, z2, z3⟩ := z
  go_enter Try.func32, Try.ntmps32
  go_wp2_with fail
  refine bodyPost_ret_by (results_from _ _ w.heap.size 0 0 (.bool false) rfl (by first | exact heap_alloc_new _ _ | exact mk_stored (heap_alloc_new _ _)) rfl) rfl ⟨rfl, ?_⟩
  first | exact (Below.refl _ _).alloc (Nat.le_refl _) _ | exact mk_below ((Below.refl _ _).alloc (Nat.le_refl _) _) _ _
set_option maxHeartbeats 400000 in
theorem nilSteps (q : Int) (w : World) : Calls Try.prog 14 #[.pointer none, .int .i64 q] w fun e w' => e = .returned (.int .i64 0) ∧ Below w.heap.size w w' := by
  go_enter Try.func14, Try.ntmps14
  go_wp2_with fail
  refine (nilFrom q w).mono ?_
  rintro e' w1 ⟨rfl, hb1⟩
  go_wp2_with fail
  go_ret
  exact ⟨rfl, bel_alloc hb1 _⟩
theorem nilGet (s : ByteArray) (q : Int) (w : World) : Calls Try.prog 12 #[.pointer none, .string s, .int .i64 q] w fun e w' => e = .returned (.tuple #[.string ⟨#[]⟩, .int .i64 2]) ∧ Below w.heap.size w w' := by
  refine (callsIn_wide (n := 3)).1 ?_
  refine callsIn_of_wp_marks Try.func12 rfl trivial ?_
  simp only [Try.ntmps12, List.size_toArray, List.length_cons, List.length_nil, Nat.reduceAdd, Nat.reduceSub, Array.replicate_succ, Array.replicate_zero, List.push_toArray, List.append_toArray, List.nil_append, List.cons_append]
  gi_wp2
  obtain ⟨r0, r1, hB⟩ := two_new w (.string ⟨#[]⟩) (.int .i64 2) 9 24
  exact ⟨_, results_get _ _ w.heap.size _ _ rfl rfl (by rw [cell_of_row _ _ _ _ _ _ r0]; rfl) (by rw [cell_of_row _ _ _ _ _ _ r1]; rfl), rfl, hB⟩
set_option maxHeartbeats 400000 in
theorem head_any (f : Nat) (w : World) (h : f ≤ 1048576) : Calls Try.prog 28 #[.int .i64 f] w fun e w' => e = .returned (.string (bs (hdrL f))) ∧ Below w.heap.size w w' := by
  have hH := Header_any f w
  rw [if_pos (by omega), Int.toNat_natCast] at hH
  have HH := Lib.hid hH
  clear hH
  go_enter Try.func28, Try.ntmps28
  go_wp2_with fail
  refine HH.out.mono ?_
  rintro e' w1 ⟨rfl, hb1⟩
  go_wp2_with fail
  go_ret
  exact ⟨rfl, hb1⟩

end Go.Proofs.Ytmeefecpnfclpaa
