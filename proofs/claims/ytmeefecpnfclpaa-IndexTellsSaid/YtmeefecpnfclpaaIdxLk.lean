/- souklaw12.same, like. -/
import Derived.Test.YtmeefecpnfclpaaRMarks
import Derived.Test.YtmeefecpnfclpaaRAdd
import Derived.Test.YtmeefecpnfclpaaIdxC
import Derived.BigQuiet
import Derived.Deep.QuietTactic
namespace Go.Proofs.Ytmeefecpnfclpaa
open Go.RowKit

set_option maxRecDepth 100000 in
set_option maxHeartbeats 2000000 in
theorem same_eq {B1 B2 n cap cap2 : Nat} {oa oa2 : Option Addr} (ms : List (Nat × Nat)) (w : World) (hn : n ≤ 1000000000) (hml : ms.length = n) (h1 : w.ownsRow B1 44 2 (.slice oa n cap) n (mkRow ms)) (h2 : w.ownsRow B2 143 2 (.slice oa2 n cap2) n (mkRow ms)) :
    Calls Try.prog 56 #[.slice oa n cap, .slice oa2 n cap2] w fun e w' => e = .returned (.bool true) ∧ Below w.heap.size w w' := by
  have H1 := Lib.hid h1
  have H2 := Lib.hid h2
  have HML := Lib.hid hml
  clear h1 h2 hml
  go_enter Try.func56, Try.ntmps56
  go_wp2_with fail
  go_loopw [5] (fun iv W => ∃ j : Nat, j ≤ n ∧ iv = .int .i64 j ∧ Below w.heap.size w W) (fun iv _ => n - (intOf iv).toNat)
  case atStart => exact ⟨0, Nat.zero_le _, rfl, Below.refl _ _⟩
  case round =>
    obtain ⟨j, hj, rfl, hbl⟩ := hrel
    have HB := Lib.hid hbl
    clear hbl
    by_cases hjn : j < n
    · obtain ⟨g1, rfl, hg1, _, hc1⟩ := mrow_cells H1.out (by omega)
      obtain ⟨g2, rfl, hg2, _, hc2⟩ := mrow_cells H2.out (by omega)
      obtain ⟨m, hm⟩ : ∃ m, ms[j]? = some m := ⟨_, List.getElem?_eq_getElem (by rw [HML.out]; omega)⟩
      obtain ⟨r1, r2⟩ := mkRow_get _ _ _ hm
      have p0 := (HB.out.cell (p := ⟨g1, j * 2, none⟩) hg1).trans (hc1 _ _ r1)
      have p1 := (HB.out.cell (p := ⟨g1, j * 2 + 1, none⟩) hg1).trans (hc1 _ _ r2)
      have q0 := (HB.out.cell (p := ⟨g2, j * 2, none⟩) hg2).trans (hc2 _ _ r1)
      have q1 := (HB.out.cell (p := ⟨g2, j * 2 + 1, none⟩) hg2).trans (hc2 _ _ r2)
      clear hc1 hc2 r1 r2 hm
      go_wp2_with fail
      go_quiet (fail)
      go_wp2_with fail
      refine ⟨⟨j + 1, by omega, rfl, ⟨HB.out.os, HB.out.tape, HB.out.output, HB.out.size, HB.out.block⟩⟩, ?_⟩
      simp [intOf]; omega
    · obtain rfl : j = n := by omega
      go_wp2_with fail
      go_ret
      exact ⟨rfl, HB.out⟩


theorem rmarks_slice (B b e f gd : Nat) (ps : List Nat) (w : World) (he : 0 < e) (he2 : e ≤ 64) (hn : f + ps.length ≤ 1000000000) (h : Rxr B w b e f ps gd) :
    Calls Try.prog 57 #[.pointer (some ⟨b, 0, none⟩)] w fun e' w' => ∃ oa cap, e' = .returned (.slice oa (cntM e ps.length) cap) ∧ w'.ownsRow w.heap.size 143 2 (.slice oa (cntM e ps.length) cap) (cntM e ps.length) (mkRow (marksL e f ps)) ∧ Below w.heap.size w w' := by
  refine (rmarks_any B b e f gd ps w he he2 hn h).mono ?_
  rintro e' w' ⟨v, rfl, h2, hb⟩
  rcases h2.2 with ⟨rfl, h0⟩ | ⟨g, c, cur, rfl, _⟩
  · rw [h0] at h2 ⊢; exact ⟨none, 0, rfl, h2, hb⟩
  · exact ⟨_, _, rfl, h2, hb⟩

/-- what like holds, all through -/
def lkS (B b c e f gd : Nat) (ps : List Nat) (w w' : World) : Prop := Ixr w' b e f ps gd ∧ Rxr B w' c e f ps gd ∧ Below w.heap.size w w'
theorem lkS_keep {B b c e f gd : Nat} {ps : List Nat} {w w1 w2 : World} (h : lkS B b c e f gd ps w w1) (hb : Below w1.heap.size w1 w2) :
    w2.cell? ⟨c, 0, none⟩ = some (.int .i64 f) ∧ w2.cell? ⟨c, 3, none⟩ = some (.int .i64 gd) ∧ lkS B b c e f gd ps w w2 := by
  have h2 := h.2.1.keep hb
  obtain ⟨_, v, hv, _⟩ := h2
  obtain ⟨c0, _, _, c3, _⟩ := rx_cells hv
  exact ⟨c0, c3, h.1.keep hb, h.2.1.keep hb, h.2.2.trans (hb.mono h.2.2.size)⟩
theorem lkS_one {B b c e f gd : Nat} {ps : List Nat} {w w' : World} {p q : Prop} (h : p ∧ q ∧ lkS B b c e f gd ps w w') : Ixr w' b e f ps gd := h.2.2.1
theorem lkS_two {B b c e f gd : Nat} {ps : List Nat} {w w' : World} {p q : Prop} (h : p ∧ q ∧ lkS B b c e f gd ps w w') : Rxr B w' c e f ps gd := h.2.2.2.1
theorem lkS_three {B b c e f gd : Nat} {ps : List Nat} {w w' : World} {p q : Prop} (h : p ∧ q ∧ lkS B b c e f gd ps w w') : Below w.heap.size w w' := h.2.2.2.2
theorem lkS_start {B b c e f gd : Nat} {ps : List Nat} {w : World} (h1 : Ixr w b e f ps gd) (h2 : Rxr B w c e f ps gd) :
    w.drew.cell? ⟨c, 0, none⟩ = some (.int .i64 f) ∧ w.drew.cell? ⟨c, 3, none⟩ = some (.int .i64 gd) ∧ lkS B b c e f gd ps w w.drew :=
  lkS_keep (w1 := w) ⟨h1, h2, Below.refl _ _⟩ (bel_drew (Below.refl _ _))

set_option maxRecDepth 100000 in
set_option maxHeartbeats 4000000 in
theorem like_eq (B b c e f gd : Nat) (ps : List Nat) (w : World) (he : 0 < e) (he2 : e ≤ 64) (hn : f + ps.length ≤ 1000000000) (h1 : Ixr w b e f ps gd) (h2 : Rxr B w c e f ps gd) :
    Calls Try.prog 25 #[.pointer (some ⟨b, 0, none⟩), .pointer (some ⟨c, 0, none⟩)] w fun e' w' => e' = .returned (.bool true) ∧ Below w.heap.size w w' := by
  have H1 := Lib.hid h1
  have H2 := Lib.hid h2
  have HM1 := Lib.hid (fun W (hW : Ixr W b e f ps gd) => marks_any b e f gd ps W he (by omega) hW)
  have HM2 := Lib.hid (fun W (hW : Rxr B W c e f ps gd) => rmarks_slice B c e f gd ps W he he2 hn hW)
  have HN1 := Lib.hid (fun W (hW : Ixr W b e f ps gd) => ixNext b e f gd ps W hW)
  have HN2 := Lib.hid (fun W (hW : Rxr B W c e f ps gd) => rNext_any B c e f gd ps W hn hW)
  have HML := Lib.hid (marks_len e f ps)
  have HCL := Lib.hid (Nat.le_trans (cnt_le e ps.length he) (by omega : ps.length ≤ 1000000000))
  obtain ⟨N, hN⟩ : ∃ N, f + ps.length = N := ⟨_, rfl⟩
  rw [hN] at HN1 HN2
  generalize cntM e ps.length = C at *
  generalize marksL e f ps = ms at *
  clear h1 h2 hN hn
  go_enter Try.func25, Try.ntmps25
  go_wp2_with fail
  go_region_held3 (fun w' => w'.cell? ⟨c, 0, none⟩ = some (.int .i64 f) ∧ w'.cell? ⟨c, 3, none⟩ = some (.int .i64 gd) ∧ lkS B b c e f gd ps w w')
    (first | exact lkS_start H1.out H2.out | exact lkS_keep (And.right (And.right (by assumption))) (by assumption) | assumption)
    (first
      | (go_at_call 18; (with_reducible refine (HM1.out _ (lkS_one (by assumption))).mono ?_); rintro e' w3 ⟨oa1, cap1, rfl, hr1, _, hbM⟩)
      | (go_at_call 57; (with_reducible refine (HM2.out _ (lkS_two (by assumption))).mono ?_); rintro e' w4 ⟨oa2, cap2, rfl, hr2, hbR⟩)
      | (go_at_call 56; (first | refine (same_eq ms _ HCL.out HML.out (ownsRow_below hr1 hbR) hr2).mono ?_ | refine (same_eq ms _ HCL.out HML.out hr1 (ownsRow_below hr2 hbM)).mono ?_); rintro e' w5 ⟨rfl, hbS⟩)
      | (go_at_call 23; (with_reducible refine (ixFirst b e f gd ps _ (lkS_one (by assumption))).mono ?_); rintro e' w6 ⟨rfl, rfl⟩)
      | (go_at_call 21; (with_reducible refine (HN1.out _ (lkS_one (by assumption))).mono ?_); rintro e' w7 ⟨rfl, rfl⟩)
      | (go_at_call 35; (with_reducible refine (HN2.out _ (lkS_two (by assumption))).mono ?_); rintro e' w8 ⟨rfl, hbN⟩)
      | (go_at_call 20; (with_reducible refine (ixGood b e f gd ps _ (lkS_one (by assumption))).mono ?_); rintro e' w9 ⟨rfl, rfl⟩))
  all_goals
    go_wp2_with fail
    go_ret
    exact ⟨rfl, lkS_three (by assumption)⟩

end Go.Proofs.Ytmeefecpnfclpaa
