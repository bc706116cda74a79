/- Walks over souklaw10.same; the reference's Scan at any place. -/
import Derived.Test.YtkgcjelipllpdaaRef10U
import Derived.Test.YtkgcjelipllpdaaFrameBackL
import Derived.BigQuiet
import Derived.OpenShut
import Derived.WalkSmall
import Derived.Deep.QuietTactic
namespace Go.Proofs.Ytkgcjelipllpdaa
open Go.RowKit

theorem rscan_out (s : ByteArray) (a : Int) (f : Int) (w : World) (h : a < 0 ∨ (s.size : Int) < a) :
    Calls Try.prog 13 #[.string s, .int .i64 a, .int .i64 f] w
      fun e w' => e = .returned (.tuple #[.slice none 0 0, .int .i64 0]) ∧ Below w.heap.size w w' := by
  by_cases h1 : a < 0
  · have d1 : decide (a < 0) = true := decide_eq_true h1
    go_enter Try.func13, Try.ntmps13
    go_wp2_with fail
    go_ret2
    exact ⟨rfl, Below.refl _ _⟩
  · have d1 : decide (a < 0) = false := decide_eq_false h1
    have d2 : decide ((s.size : Int) < a) = true := decide_eq_true (by omega)
    go_enter Try.func13, Try.ntmps13
    go_wp2_with fail
    go_ret2
    exact ⟨rfl, Below.refl _ _⟩
theorem rscan_any (s : ByteArray) (a f : Int) (w : World) (hs : s.size ≤ 1000000) (hf : (Lit.int .i64 f).wf = true) :
    Calls Try.prog 13 #[.string s, .int .i64 a, .int .i64 f] w
      fun e w' => ∃ v, e = .returned (.tuple #[v, .int .i64 (scanG s.data.toList a f)]) ∧ w'.ownsRow w.heap.size 28 3 v (scanL s.data.toList a f).length (frRow s (scanL s.data.toList a f)) ∧ Below w.heap.size w w' := by
  have hl : s.data.toList.length = s.size := rfl
  have hfb := bounds_i64 hf
  by_cases h : a < 0 ∨ (s.size : Int) < a
  · refine (rscan_out s a f w h).mono ?_
    rintro e w' ⟨rfl, hb⟩
    unfold scanG scanL
    rw [hl, if_pos h, if_pos h]
    exact ⟨.slice none 0 0, rfl, World.ownsRow_nil _ _ _ _, hb⟩
  · obtain ⟨n, rfl⟩ : ∃ n : Nat, a = n := ⟨a.toNat, by omega⟩
    refine (rscan_in s hs (s.size + 1) n f w (by omega) (by omega) hfb.1 hfb.2).mono ?_
    rintro e w' ⟨v, rfl, ho, hb⟩
    unfold scanG scanL
    rw [hl, if_neg h, if_neg h, Int.toNat_natCast]
    exact ⟨v, rfl, ho, hb⟩

/-- a row of frames: each three cells -/
def frs (xs : List Value) (n : Nat) : Prop := ∀ i, i < n → ∃ q p a, xs[3 * i]? = some (.int .i64 q) ∧ xs[3 * i + 1]? = some (.string p) ∧ xs[3 * i + 2]? = some (.int .i64 a)
theorem frs_row (s : ByteArray) : ∀ (ps : List Nat), frs (frRow s ps) ps.length := by
  intro ps
  induction ps with
  | nil => intro i h; cases h
  | cons p ps ih =>
    intro i h
    have e : frRow s (p :: ps) = (frCells (fQ s.data.toList p) (bs (sl s.data.toList (p + 16) (fN s.data.toList p))) p).toList ++ frRow s ps := rfl
    have e3 : (frCells (fQ s.data.toList p) (bs (sl s.data.toList (p + 16) (fN s.data.toList p))) p).toList.length = 3 := rfl
    cases i with
    | zero => exact ⟨_, _, _, rfl, rfl, rfl⟩
    | succ i =>
      obtain ⟨q, t, a, h1, h2, h3⟩ := ih i (by rw [List.length_cons] at h; omega)
      refine ⟨q, t, a, ?_, ?_, ?_⟩
      · rw [e, List.getElem?_append_right (by rw [e3]; omega), e3, show 3 * (i + 1) - 3 = 3 * i by omega]; exact h1
      · rw [e, List.getElem?_append_right (by rw [e3]; omega), e3, show 3 * (i + 1) + 1 - 3 = 3 * i + 1 by omega]; exact h2
      · rw [e, List.getElem?_append_right (by rw [e3]; omega), e3, show 3 * (i + 1) + 2 - 3 = 3 * i + 2 by omega]; exact h3
theorem rrow_cells {w : World} {B cap n : Nat} {oa : Option Addr} {xs : List Value} {t : TypeId} (h : w.ownsRow B t 3 (.slice oa n cap) n xs) (h0 : 0 < n) :
    ∃ g, oa = some ⟨g, 0, none⟩ ∧ g < w.heap.size ∧ ∀ (j : Nat) v, xs[j]? = some v → w.cell? ⟨g, j, none⟩ = some v := by
  rcases h.2 with ⟨_, hn⟩ | ⟨g, c, cur, hv, hB, hcur, _⟩
  · subst hn; cases h0
  · cases hv
    have add : ∀ j, (⟨g, 0, none⟩ : Addr).add j = ⟨g, j, none⟩ := fun j => by unfold Addr.add; split <;> simp_all
    refine ⟨g, rfl, (Array.getElem?_eq_some_iff.1 hcur).1, fun j v hj => ?_⟩
    have c0 := h.cells (g := g) rfl j v hj
    rwa [add] at c0

set_option maxRecDepth 100000 in
set_option maxHeartbeats 2000000 in
theorem same_any {B1 B2 c1 c2 n : Nat} {v1 v2 : Option Addr} {xs : List Value} (w : World) (h1 : w.ownsRow B1 24 3 (.slice v1 n c1) n xs) (h2 : w.ownsRow B2 28 3 (.slice v2 n c2) n xs) (hx : frs xs n) (hn : n ≤ 1000000000) :
    Calls Try.prog 14 #[.slice v1 n c1, .slice v2 n c2] w fun e w' => e = .returned (.bool true) ∧ Below w.heap.size w w' := by
  have H1 := Lib.hid h1
  have H2 := Lib.hid h2
  have HX := Lib.hid hx
  clear h1 h2 hx
  go_enter Try.func14, Try.ntmps14
  go_wp2_with fail
  go_loopw [5] (fun iv W => ∃ i : Nat, i ≤ n ∧ iv = .int .i64 i ∧ Below w.heap.size w W) (fun iv _ => n - (intOf iv).toNat)
  case atStart => exact ⟨0, Nat.zero_le _, rfl, Below.refl _ _⟩
  case round =>
    obtain ⟨i, hi, rfl, hbl⟩ := hrel
    have HB := Lib.hid hbl
    clear hbl
    by_cases hin : i < n
    · obtain ⟨g, rfl, hg, hrc⟩ := rrow_cells H1.out (by omega)
      obtain ⟨g2, rfl, hg2, hrc2⟩ := rrow_cells H2.out (by omega)
      obtain ⟨q, p, a, r1, r2, r3⟩ := HX.out i hin
      have p0 := (HB.out.cell (p := ⟨g, 3 * i, none⟩) hg).trans (hrc _ _ r1)
      have p1 := (HB.out.cell (p := ⟨g, 3 * i + 1, none⟩) hg).trans (hrc _ _ r2)
      have p2 := (HB.out.cell (p := ⟨g, 3 * i + 2, none⟩) hg).trans (hrc _ _ r3)
      have q0 := (HB.out.cell (p := ⟨g2, 3 * i, none⟩) hg2).trans (hrc2 _ _ r1)
      have q1 := (HB.out.cell (p := ⟨g2, 3 * i + 1, none⟩) hg2).trans (hrc2 _ _ r2)
      have q2 := (HB.out.cell (p := ⟨g2, 3 * i + 2, none⟩) hg2).trans (hrc2 _ _ r3)
      rw [Nat.mul_comm] at p0 p1 p2 q0 q1 q2
      clear hrc hrc2 r1 r2 r3
      go_wp2_with fail
      go_quiet (fail)
      go_wp2_with fail
      go_roundw
      case rel => exact ⟨i + 1, hin, by go_num, below_drewN HB.out _⟩
      case measure => simp [intOf]; omega
    · obtain rfl : i = n := by omega
      go_wp2_with fail
      go_ret
      exact ⟨rfl, HB.out⟩

end Go.Proofs.Ytkgcjelipllpdaa
