/- Walks over package index: cmp.Compare, the search for a mark, slices.Clone. -/
import Derived.Test.YtmeefecpnfclpaaB3
import Derived.Deep.QuietTactic
import Derived.BigQuiet
import Derived.ArgAppend
import Derived.Outline
namespace Go.Proofs.Ytmeefecpnfclpaa
open Go.RowKit

def cmpI (x y : Int) : Int := if x < y then -1 else if y < x then 1 else 0
set_option maxHeartbeats 400000 in
theorem cmp_any (x y : Int) (w : World) :
    Calls Try.prog 65 #[.int .i64 x, .int .i64 y] w fun e w' => e = .returned (.int .i64 (cmpI x y)) ∧ w = w' := by
  unfold cmpI
  by_cases h1 : x < y
  · have d1 : decide (x < y) = true := decide_eq_true h1
    rw [if_pos h1]
    go_enter Try.func65, Try.ntmps65
    go_wp2
    go_ret
    exact ⟨rfl, rfl⟩
  · have d1 : decide (x < y) = false := decide_eq_false h1
    rw [if_neg h1]
    by_cases h2 : y < x
    · have d2 : decide (y < x) = true := decide_eq_true h2
      rw [if_pos h2]
      go_enter Try.func65, Try.ntmps65
      go_wp2
      go_ret
      exact ⟨rfl, rfl⟩
    · have d2 : decide (y < x) = false := decide_eq_false h2
      rw [if_neg h2]
      go_enter Try.func65, Try.ntmps65
      go_wp2
      go_ret
      exact ⟨rfl, rfl⟩

set_option maxHeartbeats 400000 in
theorem from1_any (x a y : Int) (w : World) :
    Calls Try.prog 64 #[.agg #[.int .i64 x, .int .i64 a], .int .i64 y] w fun e w' => e = .returned (.int .i64 (cmpI x y)) ∧ Below w.heap.size w w' := by
  go_enter Try.func64, Try.ntmps64
  go_wp2_with fail
  refine (cmp_any x y _).mono ?_
  rintro e w1 ⟨rfl, rfl⟩
  go_wp2_with fail
  go_ret
  exact ⟨rfl, (Below.refl _ _).alloc (Nat.le_refl _) _⟩

theorem from1_to (x a y c : Int) (w : World) (h : cmpI x y = c) :
    Calls Try.prog 64 #[.agg #[.int .i64 x, .int .i64 a], .int .i64 y] w fun e w' => e = .returned (.int .i64 c) ∧ Below w.heap.size w w' := by
  subst h; exact from1_any x a y w

/-- the cells of a row of pairs -/
theorem mrow_cells {w : World} {B cap n : Nat} {oa : Option Addr} {xs : List Value} {t : TypeId} (h : w.ownsRow B t 2 (.slice oa n cap) n xs) (h0 : 0 < n) :
    ∃ g, oa = some ⟨g, 0, none⟩ ∧ g < w.heap.size ∧ B ≤ g ∧ ∀ (j : Nat) v, xs[j]? = some v → w.cell? ⟨g, j, none⟩ = some v := by
  rcases h.2 with ⟨_, hn⟩ | ⟨g, c, cur, hv, hB, hcur, _⟩
  · subst hn; cases h0
  · cases hv
    have add : ∀ j, (⟨g, 0, none⟩ : Addr).add j = ⟨g, j, none⟩ := fun j => by unfold Addr.add; split <;> simp_all
    refine ⟨g, rfl, (Array.getElem?_eq_some_iff.1 hcur).1, hB, fun j v hj => ?_⟩
    have c0 := h.cells (g := g) rfl j v hj
    rwa [add] at c0

set_option maxRecDepth 100000 in
set_option maxHeartbeats 2000000 in
theorem search_any {B cap n : Nat} {oa : Option Addr} (ms : List (Nat × Nat)) (q k : Nat) (w : World) (h1 : w.ownsRow B 44 2 (.slice oa n cap) n (mkRow ms)) (hn : ms.length = n) (hb : n ≤ 1000000000) (hk : k ≤ n)
    (hlo : ∀ j m, ms[j]? = some m → j < k → m.1 < q) (hhi : ∀ j m, ms[j]? = some m → k ≤ j → q ≤ m.1) :
    Calls Try.prog 63 #[.slice oa n cap, .int .i64 q, .func (.func 64) #[] #[]] w
      fun e w' => e = .returned (.tuple #[.int .i64 k, .bool (ms[k]?.any fun m => m.1 == q)]) ∧ Below w.heap.size w w' := by
  have H1 := Lib.hid h1
  have HL := Lib.hid hlo
  have HH := Lib.hid hhi
  have HN := Lib.hid hn
  clear h1 hlo hhi hn
  go_enter Try.func63, Try.ntmps63
  go_wp2_with fail
  go_loopw [9, 10] (fun iv jv W => ∃ i j : Nat, i ≤ k ∧ k ≤ j ∧ j ≤ n ∧ iv = .int .i64 i ∧ jv = .int .i64 j ∧ Below w.heap.size w W) (fun iv jv _ => (intOf jv).toNat - (intOf iv).toNat)
  case atStart => exact ⟨0, n, Nat.zero_le _, hk, Nat.le_refl _, rfl, rfl, Below.refl _ _⟩
  case round =>
    obtain ⟨i, j, hi, hkj, hj, rfl, rfl, hbl⟩ := hrel
    have HB := Lib.hid hbl
    clear hbl
    by_cases hij : i < j
    · obtain ⟨g, rfl, hg, _, hrc⟩ := mrow_cells H1.out (by omega)
      obtain ⟨m, hm⟩ : ∃ m, ms[(i + j) / 2]? = some m := ⟨_, List.getElem?_eq_getElem (by rw [HN.out]; omega)⟩
      obtain ⟨r1, r2⟩ := mkRow_get ms _ m hm
      have p0 := (HB.out.cell (p := ⟨g, (i + j) / 2 * 2, none⟩) hg).trans (hrc _ _ r1)
      have p1 := (HB.out.cell (p := ⟨g, (i + j) / 2 * 2 + 1, none⟩) hg).trans (hrc _ _ r2)
      clear hrc r1 r2
      by_cases hc : (i + j) / 2 < k
      · have hlt := HL.out _ m hm hc
        have HC := Lib.hid (show cmpI (m.1 : Int) (q : Int) = -1 from if_pos (by omega))
        clear hm hlt
        go_wp2_with fail
        refine (from1_to _ _ _ _ _ HC.out).mono ?_
        rintro e w1 ⟨rfl, hb1⟩
        go_wp2_with fail
        go_roundw
        case rel => exact ⟨(i + j) / 2 + 1, j, by omega, hkj, hj, val_int (by omega), rfl, bel_trans HB.out hb1⟩
        case measure => simp [intOf]; omega
      · have hle := HH.out _ m hm (by omega)
        by_cases heq : m.1 = q
        · have HC := Lib.hid (show cmpI (m.1 : Int) (q : Int) = 0 by unfold cmpI; rw [if_neg (by omega), if_neg (by omega)])
          clear hm hle heq
          go_wp2_with fail
          refine (from1_to _ _ _ _ _ HC.out).mono ?_
          rintro e w1 ⟨rfl, hb1⟩
          go_wp2_with fail
          go_roundw
          case rel => exact ⟨i, (i + j) / 2, hi, by omega, by omega, rfl, val_int (by omega), bel_trans HB.out hb1⟩
          case measure => simp [intOf]; omega
        · have HC := Lib.hid (show cmpI (m.1 : Int) (q : Int) = 1 by unfold cmpI; rw [if_neg (by omega), if_pos (by omega)])
          clear hm hle heq
          go_wp2_with fail
          refine (from1_to _ _ _ _ _ HC.out).mono ?_
          rintro e w1 ⟨rfl, hb1⟩
          go_wp2_with fail
          go_roundw
          case rel => exact ⟨i, (i + j) / 2, hi, by omega, by omega, rfl, val_int (by omega), bel_trans HB.out hb1⟩
          case measure => simp [intOf]; omega
    · obtain rfl : i = j := by omega
      obtain rfl : i = k := by omega
      by_cases hin : i < n
      · obtain ⟨g, rfl, hg, _, hrc⟩ := mrow_cells H1.out (by omega)
        obtain ⟨m, hm⟩ : ∃ m, ms[i]? = some m := ⟨_, List.getElem?_eq_getElem (by rw [HN.out]; omega)⟩
        obtain ⟨r1, r2⟩ := mkRow_get ms _ m hm
        have p0 := (HB.out.cell (p := ⟨g, i * 2, none⟩) hg).trans (hrc _ _ r1)
        have p1 := (HB.out.cell (p := ⟨g, i * 2 + 1, none⟩) hg).trans (hrc _ _ r2)
        have d1 : decide (i < n) = true := decide_eq_true hin
        clear hrc r1 r2
        have hle := HH.out _ m hm (by omega)
        have HE := Lib.hid (show (ms[i]?.any fun m => m.1 == q) = (m.1 == q) by rw [hm]; rfl)
        by_cases heq : m.1 = q
        · have HC := Lib.hid (show cmpI (m.1 : Int) (q : Int) = 0 by unfold cmpI; rw [if_neg (by omega), if_neg (by omega)])
          have HQ := Lib.hid (show (ms[i]?.any fun m => m.1 == q) = true by rw [HE.out, heq]; exact beq_self_eq_true q)
          clear hm hle heq HE
          go_wp2_with fail
          refine (from1_to _ _ _ _ _ HC.out).mono ?_
          rintro e w1 ⟨rfl, hb1⟩
          go_wp2_with fail
          go_ret2
          rw [HQ.out]
          exact ⟨rfl, bel_trans HB.out hb1⟩
        · have HC := Lib.hid (show cmpI (m.1 : Int) (q : Int) = 1 by unfold cmpI; rw [if_neg (by omega), if_pos (by omega)])
          have HQ := Lib.hid (show (ms[i]?.any fun m => m.1 == q) = false by rw [HE.out]; exact beq_false_of_ne heq)
          clear hm hle heq HE
          go_wp2_with fail
          refine (from1_to _ _ _ _ _ HC.out).mono ?_
          rintro e w1 ⟨rfl, hb1⟩
          go_wp2_with fail
          go_ret2
          rw [HQ.out]
          exact ⟨rfl, bel_trans HB.out hb1⟩
      · obtain rfl : i = n := by omega
        have HQ := Lib.hid (show (ms[i]?.any fun m => m.1 == q) = false by rw [List.getElem?_eq_none (by rw [HN.out]; omega)]; rfl)
        go_wp2_with fail
        go_ret2
        rw [HQ.out]
        exact ⟨rfl, HB.out⟩

end Go.Proofs.Ytmeefecpnfclpaa
