/- Walks over package index: an index in memory; mark, First, Next, Good, Marks. -/
import Derived.Test.YtmeefecpnfclpaaIdxM
import Derived.BigRegion
namespace Go.Proofs.Ytmeefecpnfclpaa
open Go.RowKit

/-- an index in memory; its marks lie in a row of their own -/
def Ixr (w : World) (b e f : Nat) (ps : List Nat) (gd : Nat) : Prop :=
  ∃ oa cap, w.heap[b]? = some (.cells (ixC e f (f + ps.length) gd (.slice oa (cntM e ps.length) cap)) 64) ∧ w.ownsRow 0 44 2 (.slice oa (cntM e ps.length) cap) (cntM e ps.length) (mkRow (marksL e f ps)) ∧ (cntM e ps.length = 0 → oa = none)
theorem Ixr.lt {w : World} {b e f gd : Nat} {ps : List Nat} (h : Ixr w b e f ps gd) : b < w.heap.size := by obtain ⟨oa, cap, h1, _⟩ := h; exact (Array.getElem?_eq_some_iff.1 h1).1
theorem ownsRow_below {w w' : World} {B : Nat} {t : TypeId} {k n : Nat} {v : Value} {xs : List Value} (h : w.ownsRow B t k v n xs) (hb : Below w.heap.size w w') : w'.ownsRow B t k v n xs :=
  ownsRow_keep h (fun g _ _ ho _ => (hb.block g (Array.getElem?_eq_some_iff.1 ho).1).trans ho)
theorem Ixr.keep {w w' : World} {b e f gd : Nat} {ps : List Nat} (h : Ixr w b e f ps gd) (hb : Below w.heap.size w w') : Ixr w' b e f ps gd := by
  obtain ⟨oa, cap, h1, h2, h3⟩ := h
  exact ⟨oa, cap, (hb.block b (Array.getElem?_eq_some_iff.1 h1).1).trans h1, ownsRow_below h2 hb, h3⟩
/-- a row in another type's blocks is not met where only that block is written -/
theorem row_keepX {W W' : World} {B n b : Nat} {v : Value} {xs : List Value} {t t' : TypeId} {k : Nat} {arr : Array Value} (h : W.ownsRow B t k v n xs) (hb : W.heap[b]? = some (.cells arr t')) (hne : t ≠ t') (hk : KeepX (fun i => i = b) W W') : W'.ownsRow B t k v n xs := by
  refine ⟨h.1, h.2.imp id (fun ⟨g, c, cur, e1, e2, e3, e4⟩ => ⟨g, c, cur, e1, e2, ?_, e4⟩)⟩
  have hgb : g ≠ b := fun e => by subst e; rw [hb] at e3; cases e3; exact hne rfl
  exact (hk.block g (Array.getElem?_eq_some_iff.1 e3).1 hgb).trans e3
theorem ownsRow_base {B : Nat} {e : TypeId} {k : Nat} {v : Value} {n : Nat} {xs : List Value} {w : World} (h : w.ownsRow B e k v n xs) : w.ownsRow 0 e k v n xs :=
  ⟨h.1, h.2.imp id (fun ⟨g, c, cur, e1, _, e3, e4⟩ => ⟨g, c, cur, e1, Nat.zero_le _, e3, e4⟩)⟩

set_option maxHeartbeats 1000000 in
theorem mark_skip (b e f gd p n : Nat) (v : Value) (w : World) (he : 0 < e) (hfn : f ≤ n) (hn : n ≤ 1000000000) (hb : w.heap[b]? = some (.cells (ixC e f n gd v) 64)) (hm : (n - f) % e ≠ 0) :
    Calls Try.prog 30 #[.pointer (some ⟨b, 0, none⟩), .int .i64 p] w fun e' w' => e' = .returned (.tuple #[]) ∧ w'.heap[b]? = some (.cells (ixC e f (n + 1) gd v) 64) ∧ KeepX (fun i => i = b) w w' := by
  obtain ⟨c0, c1, c2, c3, c4, fz⟩ := ix_cells hb
  have g0 : (0 : Int) < (e : Int) := by omega
  have d0 : (((n : Int) - (f : Int)) % (e : Int) == 0) = false := by
    rw [show (n : Int) - (f : Int) = ((n - f : Nat) : Int) by omega, ← Int.natCast_emod, beq_eq_false_iff_ne]; omega
  have f2 := fz 2
  have HB := Lib.hid hb
  clear fz hb
  go_enter Try.func30, Try.ntmps30
  go_wp2_with fail
  go_quiet (fail)
  go_wp2_with fail
  go_end0
  exact ⟨rfl, ix_set2 (m := n + 1) HB.out, (KeepX.of_below (E := fun i => i = b) (bel_drewN (Below.refl _ _) _)).setCell (p := ⟨b, 2, none⟩) rfl _⟩

theorem mark_any (b e f gd p : Nat) (ps : List Nat) (w : World) (he : 0 < e) (hn : f + ps.length ≤ 1000000000) (h : Ixr w b e f ps gd) :
    Calls Try.prog 30 #[.pointer (some ⟨b, 0, none⟩), .int .i64 p] w fun e' w' => e' = .returned (.tuple #[]) ∧ Ixr w' b e f (ps ++ [p]) gd ∧ KeepX (fun i => i = b) w w' := by
  obtain ⟨oa, cap, h1, h2, h3⟩ := h
  have hs := marks_snoc e f ps p he
  have hc := cnt_succ e ps.length he
  have hl : (ps ++ [p]).length = ps.length + 1 := by simp
  have hcl := cnt_le e ps.length he
  by_cases hm : ps.length % e = 0
  · rw [if_pos hm] at hs hc
    have hrow : mkRow (marksL e f (ps ++ [p])) = mkRow (marksL e f ps) ++ [.int .i64 ((f + ps.length : Nat) : Int), .int .i64 p] := by rw [hs, mkRow_snoc]
    have fin : ∀ (e' : Ending) (w' : World), (e' = .returned (.tuple #[]) ∧ ∃ g' cap', w'.heap[b]? = some (.cells (ixC e f (f + ps.length + 1) gd (.slice (some ⟨g', 0, none⟩) (cntM e ps.length + 1) cap')) 64) ∧
        w'.ownsRow w.heap.size 44 2 (.slice (some ⟨g', 0, none⟩) (cntM e ps.length + 1) cap') (cntM e ps.length + 1) (mkRow (marksL e f ps) ++ [.int .i64 ((f + ps.length : Nat) : Int), .int .i64 p]) ∧ KeepX (fun i => i = b) w w') →
        e' = .returned (.tuple #[]) ∧ Ixr w' b e f (ps ++ [p]) gd ∧ KeepX (fun i => i = b) w w' := by
      rintro e' w' ⟨rfl, g', cap', k1, k2, k3⟩
      refine ⟨rfl, ⟨some ⟨g', 0, none⟩, cap', ?_, ?_, ?_⟩, k3⟩
      · rw [hl, hc]; exact k1
      · rw [hl, hc, hrow]; exact ownsRow_base k2
      · rw [hl, hc]; intro h0; omega
    rcases h2.2 with ⟨hv, h0⟩ | ⟨g, c, cur, hv, hB, hcur, hnc, _⟩
    · rw [h0] at h1 hv fin
      cases hv
      have hl0 : (mkRow (marksL e f ps)).length = 0 * 2 := by rw [mkRow_len, marks_len, h0]
      exact (mark_first b e f gd p (f + ps.length) (mkRow (marksL e f ps)) w he (by omega) hn h1 (by rw [Nat.add_sub_cancel_left]; exact hm) hl0).mono fin
    · cases hv
      exact (mark_hit b e f gd p (f + ps.length) (cntM e ps.length) cap g (mkRow (marksL e f ps)) w he (by omega) hn h1 (by rw [Nat.add_sub_cancel_left]; exact hm) hnc (by omega) (by rw [mkRow_len, marks_len])
        (fun j u hj => by
          have c0 := h2.cells (g := g) rfl j u hj
          have e1 : (⟨g, 0, none⟩ : Addr).add j = ⟨g, j, none⟩ := by unfold Addr.add; split <;> simp_all
          rwa [e1] at c0)).mono fin
  · rw [if_neg hm, List.append_nil] at hs
    rw [if_neg hm, Nat.add_zero] at hc
    refine (mark_skip b e f gd p (f + ps.length) _ w he (by omega) hn h1 (by rw [Nat.add_sub_cancel_left]; exact hm)).mono ?_
    rintro e' w' ⟨rfl, k1, k2⟩
    refine ⟨rfl, ⟨oa, cap, ?_, ?_, ?_⟩, k2⟩
    · rw [hl, hc]; exact k1
    · rw [hl, hc, hs]; exact row_keepX h2 h1 (by decide) k2
    · rw [hl, hc]; exact h3

set_option maxHeartbeats 400000 in
theorem ixFirst (b e f gd : Nat) (ps : List Nat) (w : World) (h : Ixr w b e f ps gd) :
    Calls Try.prog 23 #[.pointer (some ⟨b, 0, none⟩)] w fun e' w' => e' = .returned (.int .i64 f) ∧ w = w' := by
  obtain ⟨oa, cap, h1, h2, _⟩ := h
  obtain ⟨c0, c1, c2, c3, c4, fz⟩ := ix_cells h1
  clear fz h1 h2
  go_enter Try.func23, Try.ntmps23
  go_wp2_with fail
  go_ret
  exact ⟨rfl, rfl⟩
set_option maxHeartbeats 400000 in
theorem ixNext (b e f gd : Nat) (ps : List Nat) (w : World) (h : Ixr w b e f ps gd) :
    Calls Try.prog 21 #[.pointer (some ⟨b, 0, none⟩)] w fun e' w' => e' = .returned (.int .i64 ((f + ps.length : Nat) : Int)) ∧ w = w' := by
  obtain ⟨oa, cap, h1, h2, _⟩ := h
  obtain ⟨c0, c1, c2, c3, c4, fz⟩ := ix_cells h1
  clear fz h1 h2
  generalize f + ps.length = N at *
  go_enter Try.func21, Try.ntmps21
  go_wp2_with fail
  go_ret
  exact ⟨rfl, rfl⟩
set_option maxHeartbeats 400000 in
theorem ixGood (b e f gd : Nat) (ps : List Nat) (w : World) (h : Ixr w b e f ps gd) :
    Calls Try.prog 20 #[.pointer (some ⟨b, 0, none⟩)] w fun e' w' => e' = .returned (.int .i64 gd) ∧ w = w' := by
  obtain ⟨oa, cap, h1, h2, _⟩ := h
  obtain ⟨c0, c1, c2, c3, c4, fz⟩ := ix_cells h1
  clear fz h1 h2
  go_enter Try.func20, Try.ntmps20
  go_wp2_with fail
  go_ret
  exact ⟨rfl, rfl⟩

end Go.Proofs.Ytmeefecpnfclpaa
