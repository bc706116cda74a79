/- The walk over FrameReads. -/
import Derived.Test.YtkgcjelipllpdaaFrameSame
namespace Go.Proofs.Ytkgcjelipllpdaa
open Go.RowKit

theorem reads_cells (s : ByteArray) (a : Int) : ∃ (q : Nat) (p : ByteArray) (b : Int) (m k : Int), readV s a = .tuple #[.agg #[.int .i64 q, .string p, .int .i64 b], .int .i64 m, .int .i64 k] := by
  unfold readV frV frCells
  by_cases h : rdE s.data.toList a = 0
  · rw [if_pos h]; exact ⟨_, _, _, _, _, rfl⟩
  · rw [if_neg h]; exact ⟨_, _, _, _, _, rfl⟩
theorem own_one {w : World} {g B : Nat} {t : TypeId} (q : Nat) (p : ByteArray) (a : Int) (h : w.heap[g]? = some (.cells (frCells q p a) t)) (hB : B ≤ g) :
    w.ownsRow B t 3 (.slice (some ⟨g, 0, none⟩) 1 1) 1 (frCells q p a).toList :=
  ⟨rfl, .inr ⟨g, 1, frCells q p a, rfl, hB, h, Nat.le_refl _, by decide, rfl, rfl⟩⟩
theorem frs_one (q : Nat) (p : ByteArray) (a : Int) : frs (frCells q p a).toList 1 := by
  intro i hi
  obtain rfl : i = 0 := by omega
  exact ⟨_, _, _, rfl, rfl, rfl⟩
theorem row_shape3 {w : World} {B n k : Nat} {v : Value} {xs : List Value} {t : TypeId} (h : w.ownsRow B t k v n xs) : ∃ oa cap, v = .slice oa n cap := by
  rcases h.2 with ⟨rfl, rfl⟩ | ⟨g, c, cur, rfl, _⟩
  · exact ⟨none, 0, rfl⟩
  · exact ⟨_, _, rfl⟩

set_option maxHeartbeats 400000 in
theorem reads_long (s : ByteArray) (a f : Int) (w : World) (h : 12000 < s.size) :
    Calls Try.prog 3 #[.string s, .int .i64 a, .int .i64 f] w fun e w' => e = .returned (.bool true) ∧ Below w.heap.size w w' := by
  have d1 : decide ((12000 : Int) < (s.size : Int)) = true := decide_eq_true (by omega)
  go_enter Try.func3, Try.ntmps3
  go_wp2_with fail
  refine (works_any w).mono ?_
  rintro e w1 ⟨rfl, hb1⟩
  go_wp2_with fail
  go_ret
  exact ⟨rfl, hb1⟩

set_option maxHeartbeats 2000000 in
theorem reads_main (s : ByteArray) (a f : Int) (w : World) (h : s.size ≤ 12000) (hf : (Lit.int .i64 f).wf = true) :
    Calls Try.prog 3 #[.string s, .int .i64 a, .int .i64 f] w fun e w' => e = .returned (.bool true) ∧ Below w.heap.size w w' := by
  have d1 : decide ((12000 : Int) < (s.size : Int)) = false := decide_eq_false (by omega)
  have h1 := fun w => read_any s a w (by omega)
  have h2 := fun w => rread_any s a w (by omega)
  have h3 := fun w => scan_any s a f w (by omega)
  have h4 := fun w => rscan_any s a f w (by omega) hf
  obtain ⟨q, p, b, m, k, hv⟩ := reads_cells s a
  rw [hv] at h1 h2
  have hx := frs_row s (scanL s.data.toList a f)
  have hlen : (scanL s.data.toList a f).length ≤ 12000 := by
    unfold scanL
    by_cases g : a < 0 ∨ (s.data.toList.length : Int) < a
    · rw [if_pos g]; show 0 ≤ _; omega
    · rw [if_neg g]
      have hl : s.data.toList.length = s.size := rfl
      have := scanP_len s.data.toList (s.data.toList.length + 1) a.toNat f (by omega)
      omega
  generalize scanG s.data.toList a f = G at h3 h4
  generalize frRow s (scanL s.data.toList a f) = X at h3 h4 hx
  generalize (scanL s.data.toList a f).length = n at h3 h4 hx hlen
  have H1 := Lib.hid h1
  have H2 := Lib.hid h2
  have H3 := Lib.hid h3
  have H4 := Lib.hid h4
  have HX := Lib.hid hx
  clear h1 h2 h3 h4 hx hv
  go_enter Try.func3, Try.ntmps3
  go_wp2_with fail
  refine (H1.out _).mono ?_
  rintro e w1 ⟨rfl, hb1⟩
  go_wp2_with fail
  refine (H2.out _).mono ?_
  rintro e w2 ⟨rfl, hb2⟩
  go_wp2_with fail
  refine (H3.out _).mono ?_
  rintro e w3 ⟨v3, rfl, ho3, hb3⟩
  obtain ⟨oa3, cap3, rfl⟩ := row_shape3 ho3
  go_wp2_with fail
  refine (H4.out _).mono ?_
  rintro e w4 ⟨v4, rfl, ho4, hb4⟩
  obtain ⟨oa4, cap4, rfl⟩ := row_shape3 ho4
  -- what stands in the two frames
  have z1 : w1.heap.size < w2.heap.size := by have := hb2.size; simp at this; omega
  have c1 : (w2.alloc (.cells #[.int .i64 q, .string p, .int .i64 b] 28)).heap[w1.heap.size]? = some (.cells (frCells q p b) 24) :=
    (heap_alloc_old _ _ z1).trans ((hb2.block _ (by simp)).trans (heap_alloc_new _ _))
  have c2 : (w2.alloc (.cells #[.int .i64 q, .string p, .int .i64 b] 28)).heap[w2.heap.size]? = some (.cells (frCells q p b) 28) := heap_alloc_new _ _
  have b34 := bel_trans hb3 hb4
  have e1 := (b34.block w1.heap.size (by simp; omega)).trans c1
  have e2 := (b34.block w2.heap.size (by simp)).trans c2
  obtain ⟨k0, k1, k2, _, _, _⟩ := fr_cells e1
  obtain ⟨l0, l1, l2, _, _, _⟩ := rfr_cells e2
  have O3 := Lib.hid (below_own ho3 hb4)
  have O4 := Lib.hid ho4
  have HB := Lib.hid (bel_trans (bel_alloc (bel_trans (bel_alloc hb1 (.cells #[.int .i64 q, .string p, .int .i64 b] 24)) hb2) (.cells #[.int .i64 q, .string p, .int .i64 b] 28)) b34)
  have y1 : w1.heap.size < w4.heap.size := (Array.getElem?_eq_some_iff.1 e1).1
  have y2 : w2.heap.size < w4.heap.size := (Array.getElem?_eq_some_iff.1 e2).1
  clear ho3 ho4 c1 c2 b34 e1 e2 hb1 hb2 hb3 hb4 z1
  go_wp2_with fail
  refine (same_any (B1 := 0) (B2 := 0) _ (own_one q p b (heap_alloc2_old _ _ _) (Nat.zero_le _)) (own_one q p b (heap_alloc2_new _ _ _) (Nat.zero_le _)) (frs_one q p b) (by omega)).mono ?_
  rintro e w5 ⟨rfl, hb5⟩
  have HB5 := Lib.hid (bel_trans (bel_alloc (bel_alloc (Below.refl w4.heap.size w4) (.cells #[.int .i64 q, .string p, .int .i64 b] 24)) (.cells #[.int .i64 q, .string p, .int .i64 b] 28)) hb5)
  clear hb5 k0 k1 k2 l0 l1 l2
  go_wp2_with fail
  refine (same_any _ (below_own O3.out HB5.out) (below_own O4.out HB5.out) HX.out (by omega)).mono ?_
  rintro e w6 ⟨rfl, hb6⟩
  go_wp2_with fail
  refine (works_any _).mono ?_
  rintro e w7 ⟨rfl, hb7⟩
  go_wp2_with fail
  go_ret
  exact ⟨rfl, bel_trans (bel_trans (bel_trans HB.out HB5.out) hb6) hb7⟩

theorem reads_any (s : ByteArray) (a f : Int) (w : World) (hf : (Lit.int .i64 f).wf = true) :
    Calls Try.prog 3 #[.string s, .int .i64 a, .int .i64 f] w fun e w' => e = .returned (.bool true) ∧ Below w.heap.size w w' := by
  by_cases h : 12000 < s.size
  · exact reads_long s a f w h
  · exact reads_main s a f w (by omega) hf

end Go.Proofs.Ytkgcjelipllpdaa
