/- Walks over package index: Clone, Marks, from, Steps. -/
import Derived.Test.YtmeefecpnfclpaaIdxA
namespace Go.Proofs.Ytmeefecpnfclpaa
open Go.RowKit

theorem mk_size : (Try.prog.info? 44).map (·.size) = some 2 := by kernel_rfl
theorem results_from (tmps : Array Value) (w : World) (g : Nat) (x y : Int) (u : Value) (hp : tmps.getD 4 undef = .pointer (some ⟨g, 0, none⟩)) (hg : w.heap[g]? = some (.cells #[.int .i64 x, .int .i64 y] 44)) (hu : tmps.getD 5 undef = u) :
    (results Try.f32 tmps).run Try.prog w = .ok (.tuple #[.agg #[.int .i64 x, .int .i64 y], u]) w := by
  have hp' : tmps[4]?.getD undef = .pointer (some ⟨g, 0, none⟩) := by simpa using hp
  subst hu
  simp [results, hp', asAddr, run_loadVar_row w g 44 44 #[.int .i64 x, .int .i64 y] (0, 0) _ hg Try.underlying44 rfl (by exact mk_size)]
theorem mk_stored {w : World} {g : Nat} {x0 y0 x y : Int} (h : w.heap[g]? = some (.cells #[.int .i64 x0, .int .i64 y0] 44)) :
    ((w.setCell ⟨g, 0, none⟩ (.int .i64 x)).setCell ⟨g, 1, none⟩ (.int .i64 y)).heap[g]? = some (.cells #[.int .i64 x, .int .i64 y] 44) := by
  have k0 := heap_setCell_same _ _ 0 _ _ (.int .i64 x) h
  exact heap_setCell_same _ _ 1 _ _ (.int .i64 y) k0
theorem mk_below {w w' : World} {g : Nat} (h : Below g w w') (u v : Value) : Below g w ((w'.setCell ⟨g, 0, none⟩ u).setCell ⟨g, 1, none⟩ v) :=
  (h.setCell (p := ⟨g, 0, none⟩) (Nat.le_refl _) _).setCell (p := ⟨g, 1, none⟩) (Nat.le_refl _) _
theorem mk_cells {w : World} {g : Nat} {x0 y0 : Int} (h : w.heap[g]? = some (.cells #[.int .i64 x0, .int .i64 y0] 44)) :
    w.cell? ⟨g, 0, none⟩ = some (.int .i64 x0) ∧ w.cell? ⟨g, 1, none⟩ = some (.int .i64 y0) ∧ w.frozen? ⟨g, 0, none⟩ = false ∧ w.frozen? ⟨g, 1, none⟩ = false :=
  ⟨by rw [cell_of_row _ _ _ _ _ _ h]; rfl, by rw [cell_of_row _ _ _ _ _ _ h]; rfl, frozen_of_row _ _ _ _ _ h, frozen_of_row _ _ _ _ _ h⟩

/-- is a frame's number within? -/
def inIx (f n : Nat) (q : Int) : Prop := (f : Int) ≤ q ∧ q < (f + n : Nat)
instance (f n : Nat) (q : Int) : Decidable (inIx f n q) := by unfold inIx; infer_instance

set_option maxHeartbeats 1000000 in
theorem from_no (b e f gd : Nat) (ps : List Nat) (q : Int) (w : World) (h : Ixr w b e f ps gd) (hq : ¬ inIx f ps.length q) :
    Calls Try.prog 32 #[.pointer (some ⟨b, 0, none⟩), .int .i64 q] w
      fun e' w' => e' = .returned (.tuple #[.agg #[.int .i64 0, .int .i64 0], .bool false]) ∧ Below w.heap.size w w' := by
  obtain ⟨oa, cap, h1, h2, _⟩ := h
  obtain ⟨c0, c1, c2, c3, c4, fz⟩ := ix_cells h1
  have hlt := (Array.getElem?_eq_some_iff.1 h1).1
  clear fz h1 h2
  unfold inIx at hq
  generalize f + ps.length = N at *
  generalize cntM e ps.length = K at *
  have z := mk_cells (heap_alloc_new w (.cells #[.int .i64 0, .int .i64 0] 44))
  obtain ⟨z0, z1, z2, z3⟩ := z
  by_cases h1 : q < f
  · have d1 : decide (q < (f : Int)) = true := decide_eq_true h1
    go_enter Try.func32, Try.ntmps32
    go_wp2_with fail
    refine bodyPost_ret_by (results_from _ _ w.heap.size 0 0 (.bool false) rfl (by first | exact heap_alloc_new _ _ | exact mk_stored (heap_alloc_new _ _)) rfl) rfl ⟨rfl, ?_⟩
    first | exact (Below.refl _ _).alloc (Nat.le_refl _) _ | exact mk_below ((Below.refl _ _).alloc (Nat.le_refl _) _) _ _
  · have d1 : decide (q < (f : Int)) = false := decide_eq_false h1
    have d2 : decide ((N : Int) ≤ q) = true := decide_eq_true (by omega)
    go_enter Try.func32, Try.ntmps32
    go_wp2_with fail
    refine bodyPost_ret_by (results_from _ _ w.heap.size 0 0 (.bool false) rfl (by first | exact heap_alloc_new _ _ | exact mk_stored (heap_alloc_new _ _)) rfl) rfl ⟨rfl, ?_⟩
    first | exact (Below.refl _ _).alloc (Nat.le_refl _) _ | exact mk_below ((Below.refl _ _).alloc (Nat.le_refl _) _) _ _

theorem mark_pos (e f n q : Nat) (he : 0 < e) (h1 : f ≤ q) (h2 : q < f + n) : (q - f) / e < cntM e n ∧ (q - f) / e * e ≤ q - f ∧ q - f < ((q - f) / e + 1) * e ∧ q - f = (q - f) / e * e + (q - f) % e := by
  have hd := Nat.div_add_mod (q - f) e
  have hm := Nat.mod_lt (q - f) he
  have hc : e * ((q - f) / e) = (q - f) / e * e := Nat.mul_comm _ _
  refine ⟨(cnt_lt e n _ he).2 (by omega), by omega, by rw [Nat.add_mul]; omega, by omega⟩

set_option maxHeartbeats 1000000 in
theorem from_yes (b e f gd : Nat) (ps : List Nat) (q : Nat) (w : World) (he : 0 < e) (hn : f + ps.length ≤ 1000000000) (h : Ixr w b e f ps gd) (hq1 : f ≤ q) (hq2 : q < f + ps.length) :
    Calls Try.prog 32 #[.pointer (some ⟨b, 0, none⟩), .int .i64 q] w
      fun e' w' => e' = .returned (.tuple #[.agg #[.int .i64 ((f + (q - f) / e * e : Nat) : Int), .int .i64 ((ps.getD ((q - f) / e * e) 0 : Nat) : Int)], .bool true]) ∧ Below w.heap.size w w' := by
  obtain ⟨oa, cap, h1, h2, _⟩ := h
  obtain ⟨p1, p2, p3, p4⟩ := mark_pos e f ps.length q he hq1 hq2
  obtain ⟨j, hj⟩ : ∃ j, (q - f) / e = j := ⟨_, rfl⟩
  obtain ⟨r, hr⟩ : ∃ r, (q - f) % e = r := ⟨_, rfl⟩
  rw [hj] at p1 p2 p3 p4 ⊢
  rw [hr] at p4
  have hcl := cnt_le e ps.length he
  have hml := marks_len e f ps
  have hmg := fun i hi => marks_get e f ps i hi
  obtain ⟨K, hK⟩ : ∃ K, cntM e ps.length = K := ⟨_, rfl⟩
  rw [hK] at p1 h1 h2 hcl hml hmg
  have hget := hmg j p1
  obtain ⟨ms, hms⟩ : ∃ ms, marksL e f ps = ms := ⟨_, rfl⟩
  rw [hms] at h2 hml hmg hget
  have hord : ∀ i m, ms[i]? = some m → m.1 = f + i * e ∧ i < K := by
    intro i m hi
    have hlt : i < K := by have := (List.getElem?_eq_some_iff.1 hi).1; omega
    rw [hmg i hlt] at hi
    cases hi
    exact ⟨rfl, hlt⟩
  obtain ⟨g, rfl, hg, _, hrc⟩ := mrow_cells h2 (by omega)
  obtain ⟨r1, r2⟩ := mkRow_get ms _ _ hget
  have y0 := hrc _ _ r1
  have y1 := hrc _ _ r2
  simp only at y0 y1
  obtain ⟨c0, c1, c2, c3, c4, fz⟩ := ix_cells h1
  have hlt := (Array.getElem?_eq_some_iff.1 h1).1
  have H1 := Lib.hid h1
  have H2 := Lib.hid h2
  have HG := Lib.hid hget
  clear fz hrc r1 r2 hget hmg hK hms
  obtain ⟨M, hM⟩ : ∃ M, f + j * e = M := ⟨_, rfl⟩
  obtain ⟨A, hA⟩ : ∃ A, ps.getD (j * e) 0 = A := ⟨_, rfl⟩
  rw [hM] at y0
  rw [hA] at y1
  rw [hM, hA]
  obtain ⟨N, hN⟩ : ∃ N, f + ps.length = N := ⟨_, rfl⟩
  rw [hN] at c2 hn hq2
  have d1 : decide ((q : Int) < (f : Int)) = false := decide_eq_false (by omega)
  have d2 : decide ((N : Int) ≤ (q : Int)) = false := decide_eq_false (by omega)
  have hKb : K ≤ 1000000000 := by omega
  have hlow : ∀ i m, ms[i]? = some m → i < j → m.1 < q := by
    intro i m hi hij
    rw [(hord i m hi).1]
    have := Nat.mul_le_mul_right e (show i + 1 ≤ j from hij)
    rw [Nat.add_mul] at this
    omega
  have hhigh : ∀ i m, ms[i]? = some m → j + 1 ≤ i → q < m.1 := by
    intro i m hi hij
    rw [(hord i m hi).1]
    have := Nat.mul_le_mul_right e (show j + 1 ≤ i from hij)
    omega
  have HLO := Lib.hid hlow
  have HHI := Lib.hid hhigh
  have HO := Lib.hid hord
  have HML := Lib.hid hml
  have EN := Lib.hid hN
  have EM := Lib.hid hM
  have EA := Lib.hid hA
  have HP1 := Lib.hid p1
  have HP4 := Lib.hid p4
  have hz := (mk_cells (heap_alloc_new w (.cells #[.int .i64 0, .int .i64 0] 44)))
  clear hlow hhigh hord hml hN hM hA hj hr hcl p4
  by_cases h0 : r = 0
  · have hsr := fun w' hw' => search_any (B := 0) (oa := some ⟨g, 0, none⟩) (cap := cap) (n := K) ms q j w' hw' HML.out hKb (by have := HP1.out; omega) HLO.out (fun i m hi hij => by
      rcases Nat.lt_or_ge j i with h | h
      · exact Nat.le_of_lt (HHI.out i m hi h)
      · obtain rfl : i = j := by omega
        rw [(HO.out i m hi).1]; have := HP4.out; omega)
    have hfd : (ms[j]?.any fun m => m.1 == q) = true := by
      rw [HG.out]
      show (f + j * e == q) = true
      rw [beq_iff_eq]; have := HP4.out; omega
    rw [hfd] at hsr
    have HSR := Lib.hid hsr
    clear hsr hfd h0 p1 p2 p3 h1 h2 hz
    go_enter Try.func32, Try.ntmps32
    go_wp2_with fail
    refine (HSR.out _ (H2.out.alloc _)).mono ?_
    rintro e' w1 ⟨rfl, hb1⟩
    have hW := Lib.hid (((Below.refl _ _).alloc (Nat.le_refl _) (.cells #[.int .i64 0, .int .i64 0] 44)).trans (hb1.mono (by simp)) : Below w.heap.size w w1)
    have hgz : w1.heap[w.heap.size]? = some (.cells #[.int .i64 0, .int .i64 0] 44) := (hb1.block _ (by simp)).trans (heap_alloc_new _ _)
    obtain ⟨t0, t1, t2, t3⟩ := mk_cells hgz
    have s4 := (hW.out.cell (p := ⟨b, 4, none⟩) hlt).trans c4
    have x0 := (hW.out.cell (p := ⟨g, j * 2, none⟩) hg).trans y0
    have x1 := (hW.out.cell (p := ⟨g, j * 2 + 1, none⟩) hg).trans y1
    have HGZ := Lib.hid hgz
    have q1 : (0 : Int) ≤ (j : Int) := by omega
    have q2 : (j : Int) < (K : Int) := by have := HP1.out; omega
    clear hb1 hgz c0 c1 c2 c3 c4 y0 y1
    go_wp2_with fail
    refine bodyPost_ret_by (results_from _ _ w.heap.size _ _ (.bool true) rfl (mk_stored HGZ.out) rfl) rfl ⟨rfl, mk_below hW.out _ _⟩
  · have hsr := fun w' hw' => search_any (B := 0) (oa := some ⟨g, 0, none⟩) (cap := cap) (n := K) ms q (j + 1) w' hw' HML.out hKb (by have := HP1.out; omega) (fun i m hi hij => by
      rcases Nat.lt_or_ge i j with h | h
      · exact HLO.out i m hi h
      · obtain rfl : i = j := by omega
        rw [(HO.out i m hi).1]; have := HP4.out; omega) (fun i m hi hij => Nat.le_of_lt (HHI.out i m hi hij))
    have hfd : (ms[j + 1]?.any fun m => m.1 == q) = false := by
      cases hm : ms[j + 1]? with
      | none => rfl
      | some m =>
        show (m.1 == q) = false
        rw [beq_eq_false_iff_ne]; have := HHI.out _ m hm (Nat.le_refl _); omega
    rw [hfd] at hsr
    have HSR := Lib.hid hsr
    clear hsr hfd h0 p1 p2 p3 h1 h2 hz
    have hj1 : IntKind.i64.wrap (((j + 1 : Nat) : Int) - 1) = (j : Int) := by rw [IntWalk.i64_in _ (by have := HP1.out; omega)]; omega
    go_enter Try.func32, Try.ntmps32
    go_wp2_with fail
    refine (HSR.out _ (H2.out.alloc _)).mono ?_
    rintro e' w1 ⟨rfl, hb1⟩
    have hW := Lib.hid (((Below.refl _ _).alloc (Nat.le_refl _) (.cells #[.int .i64 0, .int .i64 0] 44)).trans (hb1.mono (by simp)) : Below w.heap.size w w1)
    have hgz : w1.heap[w.heap.size]? = some (.cells #[.int .i64 0, .int .i64 0] 44) := (hb1.block _ (by simp)).trans (heap_alloc_new _ _)
    obtain ⟨t0, t1, t2, t3⟩ := mk_cells hgz
    have s4 := (hW.out.cell (p := ⟨b, 4, none⟩) hlt).trans c4
    have x0 := (hW.out.cell (p := ⟨g, j * 2, none⟩) hg).trans y0
    have x1 := (hW.out.cell (p := ⟨g, j * 2 + 1, none⟩) hg).trans y1
    have HGZ := Lib.hid hgz
    have q1 : (0 : Int) ≤ (j : Int) := by omega
    have q2 : (j : Int) < (K : Int) := by have := HP1.out; omega
    clear hb1 hgz c0 c1 c2 c3 c4 y0 y1
    go_wp2_with fail
    refine bodyPost_ret_by (results_from _ _ w.heap.size _ _ (.bool true) rfl (mk_stored HGZ.out) rfl) rfl ⟨rfl, mk_below hW.out _ _⟩

set_option maxHeartbeats 1000000 in
theorem steps_no (b e f gd : Nat) (ps : List Nat) (q : Int) (w : World) (h : Ixr w b e f ps gd) (hq : ¬ inIx f ps.length q) :
    Calls Try.prog 14 #[.pointer (some ⟨b, 0, none⟩), .int .i64 q] w fun e' w' => e' = .returned (.int .i64 0) ∧ Below w.heap.size w w' := by
  have H := Lib.hid (from_no b e f gd ps q w h hq)
  go_enter Try.func14, Try.ntmps14
  go_wp2_with fail
  refine H.out.mono ?_
  rintro e' w1 ⟨rfl, hb1⟩
  go_wp2_with fail
  go_ret
  exact ⟨rfl, bel_alloc hb1 _⟩
set_option maxHeartbeats 1000000 in
theorem steps_yes (b e f gd : Nat) (ps : List Nat) (q : Nat) (w : World) (he : 0 < e) (hn : f + ps.length ≤ 1000000000) (h : Ixr w b e f ps gd) (hq1 : f ≤ q) (hq2 : q < f + ps.length) :
    Calls Try.prog 14 #[.pointer (some ⟨b, 0, none⟩), .int .i64 q] w fun e' w' => e' = .returned (.int .i64 (((q - f) % e + 1 : Nat) : Int)) ∧ Below w.heap.size w w' := by
  have h0 := from_yes b e f gd ps q w he hn h hq1 hq2
  obtain ⟨p1, p2, p3, p4⟩ := mark_pos e f ps.length q he hq1 hq2
  obtain ⟨r, hr⟩ : ∃ r, (q - f) % e = r := ⟨_, rfl⟩
  obtain ⟨M, hM⟩ : ∃ M, f + (q - f) / e * e = M := ⟨_, rfl⟩
  obtain ⟨A, hA⟩ : ∃ A, ps.getD ((q - f) / e * e) 0 = A := ⟨_, rfl⟩
  rw [hM, hA] at h0
  rw [hr] at p4 ⊢
  have hqM : q = M + r := by omega
  subst hqM
  have H := Lib.hid h0
  clear h0 p1 p2 p3 p4 hr hM hA hq1
  go_enter Try.func14, Try.ntmps14
  go_wp2_with fail
  refine H.out.mono ?_
  rintro e' w1 ⟨rfl, hb1⟩
  go_wp2_with fail
  go_ret
  exact ⟨ret_int (by omega), bel_alloc hb1 _⟩

end Go.Proofs.Ytmeefecpnfclpaa
