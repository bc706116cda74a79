/- Walks over package index: Clone, Marks, Copy, Add. -/
import Derived.Test.YtmeefecpnfclpaaIdxB
namespace Go.Proofs.Ytmeefecpnfclpaa
open Go.RowKit

theorem nilq (w : World) (a : Option Addr) (l c : Nat) : (binOp .eql 37 (.slice a l c) (.slice none 0 0)).run Try.prog w = .ok (.bool a.isNone) w :=
  Lib.run_eql_slice_nil w 37 44 a l c 0 0 Try.underlying37

theorem clone_nil (w : World) :
    Calls Try.prog 40 #[.slice none 0 0] w fun e' w' => e' = .returned (.slice none 0 0) ∧ w = w' := by
  have hq := fun w => nilq w none 0 0
  go_enter Try.func40, Try.ntmps40
  go_wp2_with fail
  go_ret
  exact ⟨rfl, rfl⟩

set_option maxRecDepth 100000 in
set_option maxHeartbeats 1000000 in
theorem clone_some (g n cap : Nat) (xs : List Value) (w : World) (h0 : 0 < n) (hn : n ≤ 1000000000) (h : w.ownsRow 0 44 2 (.slice (some ⟨g, 0, none⟩) n cap) n xs) (h1 : ∀ u ∈ xs, u.oneCell' = true) :
    Calls Try.prog 40 #[.slice (some ⟨g, 0, none⟩) n cap] w fun e' w' => ∃ g' cap', e' = .returned (.slice (some ⟨g', 0, none⟩) n cap') ∧ w'.ownsRow w.heap.size 44 2 (.slice (some ⟨g', 0, none⟩) n cap') n xs ∧ Below w.heap.size w w' := by
  obtain ⟨i0, hi, hz0, hz1, hz2⟩ := info_parts infoM
  have hq := fun w => nilq w (some ⟨g, 0, none⟩) n cap
  go_enter Try.func40, Try.ntmps40
  have hl : xs.length = n * 2 := h.1
  have hc : ∀ j u, xs[j]? = some u → (w.alloc (.cells #[] 44)).cell? ((⟨g, 0, none⟩ : Addr).add j) = some u := fun j u hj => (h.alloc (.cells #[] 44)).cells (g := g) rfl j u hj
  have HC := Lib.hid hc
  have H1 := Lib.hid h1
  have HL := Lib.hid hl
  clear hc h1 hl h
  go_wp2_with (at_builtin; refine wpList_append_grows _ rfl (.tmp 5) (.tmp 6) 37 rfl 44 i0 _ 2 16 Try.underlying37 hi hz0 hz1 hz2 rfl (by decide) (some ⟨w.heap.size, 0, none⟩) 0 0 [] rfl (fun h => by cases h) rfl (fun _ _ j u hj => by cases hj) ⟨g, 0, none⟩ n cap xs rfl HL.out HC.out H1.out (by omega) (by unfold maxLen; omega) (by omega) ?_; intro v' w1 hown hgrow)
  rw [Nat.zero_add, List.nil_append] at hown
  obtain ⟨n', rfl⟩ : ∃ n', n = n' + 1 := ⟨n - 1, by omega⟩
  obtain ⟨g', cap', rfl⟩ := ownsRow_succ hown
  have HO := Lib.hid hown
  have HG := Lib.hid hgrow
  clear hown hgrow
  go_wp2_with fail
  go_ret
  refine ⟨g', cap', rfl, ownsRow_mono (B' := 1) (by simpa using HO.out), ?_⟩
  exact ((Below.refl _ _).alloc (Nat.le_refl _) _).grown HG.out (by simp) (fun k e => by cases e)

theorem shut_row {w : World} {n cap : Nat} {oa : Option Addr} {xs : List Value} {t : TypeId} {k B : Nat} (h : w.ownsRow B t k (.slice oa n cap) n xs) (h0 : n = 0 → oa = none) :
    (oa = none ∧ n = 0 ∧ cap = 0 ∧ xs = []) ∨ ∃ g, oa = some ⟨g, 0, none⟩ ∧ 0 < n ∧ g < w.heap.size := by
  rcases h.2 with ⟨hv, hn⟩ | ⟨g, c, cur, hv, hB, hcur, _⟩
  · cases hv
    exact .inl ⟨rfl, rfl, rfl, List.eq_nil_of_length_eq_zero (by have := h.1; omega)⟩
  · cases hv
    refine .inr ⟨g, rfl, ?_, (Array.getElem?_eq_some_iff.1 hcur).1⟩
    refine Nat.pos_of_ne_zero fun e => ?_
    have := h0 e
    cases this
/-- a clone of marks -/
theorem clone_any (n cap : Nat) (oa : Option Addr) (ms : List (Nat × Nat)) (w : World) (hn : n ≤ 1000000000) (h : w.ownsRow 0 44 2 (.slice oa n cap) n (mkRow ms)) (h0 : n = 0 → oa = none) :
    Calls Try.prog 40 #[.slice oa n cap] w fun e' w' => ∃ oa' cap', e' = .returned (.slice oa' n cap') ∧ w'.ownsRow w.heap.size 44 2 (.slice oa' n cap') n (mkRow ms) ∧ (n = 0 → oa' = none) ∧ Below w.heap.size w w' := by
  rcases shut_row h h0 with ⟨rfl, rfl, rfl, hx⟩ | ⟨g, rfl, hp, _⟩
  · refine (clone_nil w).mono ?_
    rintro e' w' ⟨rfl, rfl⟩
    exact ⟨none, 0, rfl, by rw [hx]; exact World.ownsRow_nil _ _ _ _, fun _ => rfl, Below.refl _ _⟩
  · refine (clone_some g n cap _ w hp hn h (mkRow_one ms)).mono ?_
    rintro e' w' ⟨g', cap', rfl, h1, h2⟩
    exact ⟨_, _, rfl, h1, fun e => by omega, h2⟩

set_option maxHeartbeats 1000000 in
theorem marks_any (b e f gd : Nat) (ps : List Nat) (w : World) (he : 0 < e) (hn : ps.length ≤ 1000000000) (h : Ixr w b e f ps gd) :
    Calls Try.prog 18 #[.pointer (some ⟨b, 0, none⟩)] w fun e' w' => ∃ oa cap, e' = .returned (.slice oa (cntM e ps.length) cap) ∧ w'.ownsRow w.heap.size 44 2 (.slice oa (cntM e ps.length) cap) (cntM e ps.length) (mkRow (marksL e f ps)) ∧
      (cntM e ps.length = 0 → oa = none) ∧ Below w.heap.size w w' := by
  obtain ⟨oa, cap, h1, h2, h3⟩ := h
  obtain ⟨c0, c1, c2, c3, c4, fz⟩ := ix_cells h1
  have hc := cnt_le e ps.length he
  have HC := Lib.hid (clone_any (cntM e ps.length) cap oa (marksL e f ps) w (by omega) h2 h3)
  clear fz h1 h2 h3 hc
  generalize f + ps.length = N at *
  generalize cntM e ps.length = K at *
  go_enter Try.func18, Try.ntmps18
  go_wp2_with fail
  refine HC.out.mono ?_
  rintro e' w1 ⟨oa', cap', rfl, k1, k2, k3⟩
  have K1 := Lib.hid k1
  have K2 := Lib.hid k2
  have K3 := Lib.hid k3
  clear k1 k2 k3
  go_wp2_with fail
  go_ret
  exact ⟨oa', cap', rfl, K1.out, K2.out, K3.out⟩

end Go.Proofs.Ytmeefecpnfclpaa
