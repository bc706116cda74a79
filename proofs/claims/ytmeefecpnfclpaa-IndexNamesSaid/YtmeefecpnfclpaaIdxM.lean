/- Walks over package index: mark. (Its long walks printed by gen_idxm.py.) -/
import Derived.Test.YtmeefecpnfclpaaIdxW
import Derived.Test.YtmeefecpnfclpaaB2
import Derived.Test.YtmeefecpnfclpaaB0
import Derived.Deep.RegionLawGrows
import Derived.Deep.AppendLies
namespace Go.Proofs.Ytmeefecpnfclpaa
open Go.RowKit

def ixC (e f n gd : Nat) (v : Value) : Array Value := #[.int .i64 e, .int .i64 f, .int .i64 n, .int .i64 gd, v]
theorem ix_cells {w : World} {b e f n gd : Nat} {v : Value} (h : w.heap[b]? = some (.cells (ixC e f n gd v) 64)) :
    w.cell? ⟨b, 0, none⟩ = some (.int .i64 e) ∧ w.cell? ⟨b, 1, none⟩ = some (.int .i64 f) ∧ w.cell? ⟨b, 2, none⟩ = some (.int .i64 n) ∧ w.cell? ⟨b, 3, none⟩ = some (.int .i64 gd) ∧ w.cell? ⟨b, 4, none⟩ = some v ∧ ∀ j, w.frozen? ⟨b, j, none⟩ = false :=
  ⟨by rw [cell_of_row _ _ _ _ _ _ h]; rfl, by rw [cell_of_row _ _ _ _ _ _ h]; rfl, by rw [cell_of_row _ _ _ _ _ _ h]; rfl, by rw [cell_of_row _ _ _ _ _ _ h]; rfl, by rw [cell_of_row _ _ _ _ _ _ h]; rfl, fun j => frozen_of_row _ _ _ _ _ h⟩
theorem infoM : (Try.prog.info? 44).map (fun i => (i.zero, i.size, i.bytes)) = some (some (.agg #[.int .i64 0, .int .i64 0]), 2, 16) := by kernel_rfl
theorem grown_old {W w1 : World} {b : Nat} {o : Obj} (h : W.heap[b]? = some o) (o' : Obj) (hg : ((W.alloc o').drew).grownBy w1 none) : w1.heap[b]? = some o := by
  have hl := (Array.getElem?_eq_some_iff.1 h).1
  rw [hg.block b (by show b < (W.alloc o').heap.size; simp; omega) (by simp)]
  exact (heap_alloc_old _ _ _ hl).trans h
theorem ix_set2 {w : World} {b e f n gd m : Nat} {v : Value} (h : w.heap[b]? = some (.cells (ixC e f n gd v) 64)) :
    (w.setCell ⟨b, 2, none⟩ (.int .i64 m)).heap[b]? = some (.cells (ixC e f m gd v) 64) := heap_setCell_same _ _ 2 _ _ _ h
theorem ix_set3 {w : World} {b e f n gd m : Nat} {v : Value} (h : w.heap[b]? = some (.cells (ixC e f n gd v) 64)) :
    (w.setCell ⟨b, 3, none⟩ (.int .i64 m)).heap[b]? = some (.cells (ixC e f n m v) 64) := heap_setCell_same _ _ 3 _ _ _ h
theorem ix_set4 {w : World} {b e f n gd : Nat} {v u : Value} (h : w.heap[b]? = some (.cells (ixC e f n gd v) 64)) :
    (w.setCell ⟨b, 4, none⟩ u).heap[b]? = some (.cells (ixC e f n gd u) 64) := heap_setCell_same _ _ 4 _ _ _ h
theorem keepX_grown {E : Nat → Prop} {w W w1 : World} (h : KeepX E w W) (o' : Obj) (hg : ((W.alloc o').drew).grownBy w1 none) : KeepX E w w1 := by
  have hz := hg.size
  have hz' : (W.alloc o').drew.heap.size = W.heap.size + 1 := by show (W.alloc o').heap.size = _; simp
  have e1 : KeepX E W w1 := ⟨hg.os, hg.tape, hg.output, by omega, fun k hk _ => by rw [hg.block k (by omega) (by simp)]; exact heap_alloc_old _ _ _ hk⟩
  exact h.trans e1
/-- a row in another type's blocks is not met by a store -/
theorem row_setCell {W : World} {B n b : Nat} {v : Value} {xs : List Value} {t t' : TypeId} {k j : Nat} {arr : Array Value} (h : W.ownsRow B t k v n xs) (hb : W.heap[b]? = some (.cells arr t')) (hne : t ≠ t') (u : Value) : (W.setCell ⟨b, j, none⟩ u).ownsRow B t k v n xs := by
  refine ⟨h.1, h.2.imp id (fun ⟨g, c, cur, e1, e2, e3, e4⟩ => ⟨g, c, cur, e1, e2, ?_, e4⟩)⟩
  have hgb : g ≠ b := fun e => by subst e; rw [hb] at e3; cases e3; exact hne rfl
  have : (W.setCell ⟨b, j, none⟩ u).heap[g]? = W.heap[g]? := by
    show (W.heap.modify b _)[g]? = _
    rw [Array.getElem?_modify]
    simp [hgb.symm]
  rw [this]; exact e3

set_option maxRecDepth 100000 in
set_option maxHeartbeats 3200000 in
theorem mark_hit (b e f gd p n k cap g : Nat) (olds : List Value) (w : World) (he : 0 < e) (hfn : f ≤ n) (hn : n ≤ 1000000000) (hb : w.heap[b]? = some (.cells (ixC e f n gd (.slice (some ⟨g, 0, none⟩) k cap)) 64)) (hm : (n - f) % e = 0)
    (hk : k ≤ cap) (hk2 : k ≤ 1000000000) (hlo : olds.length = k * 2) (hold : ∀ j u, olds[j]? = some u → w.cell? ⟨g, j, none⟩ = some u) :
    Calls Try.prog 30 #[.pointer (some ⟨b, 0, none⟩), .int .i64 p] w fun e' w' => e' = .returned (.tuple #[]) ∧ ∃ g' cap', w'.heap[b]? = some (.cells (ixC e f (n + 1) gd (.slice (some ⟨g', 0, none⟩) (k + 1) cap')) 64) ∧
        w'.ownsRow w.heap.size 44 2 (.slice (some ⟨g', 0, none⟩) (k + 1) cap') (k + 1) (olds ++ [.int .i64 n, .int .i64 p]) ∧ KeepX (fun i => i = b) w w' := by
  obtain ⟨c0, c1, c2, c3, c4, fz⟩ := ix_cells hb
  have g0 : (0 : Int) < (e : Int) := by omega
  have d0 : (((n : Int) - (f : Int)) % (e : Int) == 0) = true := by
    rw [show (n : Int) - (f : Int) = ((n - f : Nat) : Int) by omega, ← Int.natCast_emod, hm]; rfl
  have HB := Lib.hid hb
  have HO := Lib.hid hold
  clear hold
  clear fz hb
  obtain ⟨i0, hi, hz0, hz1, hz2⟩ := info_parts infoM
  go_enter Try.func30, Try.ntmps30
  go_wp2_with fail
  go_quiet (fail)
  go_wp2_with fail
  obtain ⟨W, eW⟩ : ∃ W, w.drewN nq = W := ⟨_, rfl⟩
  have hkw : KeepX (fun i => i = b) w W := by rw [← eW]; exact KeepX.of_below (bel_drewN (Below.refl _ _) _)
  have hsz : W.heap.size = w.heap.size := by rw [← eW]; rfl
  have b0 : W.heap[b]? = some (.cells (ixC e f n gd (.slice (some ⟨g, 0, none⟩) k cap)) 64) := by rw [← eW]; exact HB.out
  have hold1 : ∀ o a, some (⟨g, 0, none⟩ : Addr) = some a → ∀ j u, olds[j]? = some u → ((W.alloc o).drew).cell? (a.add j) = some u := by
    intro o a ha j u hj
    cases ha
    have e1 : (⟨g, 0, none⟩ : Addr).add j = ⟨g, j, none⟩ := by unfold Addr.add; split <;> simp_all
    rw [e1, World.cell?_drew]
    have h1 : W.cell? ⟨g, j, none⟩ = some u := by rw [← eW]; exact HO.out j u hj
    exact (World.cell?_of_block (heap_alloc_old _ _ _ (World.block_lt_of_cell? _ _ h1))).trans h1
  have HO1 := Lib.hid hold1
  clear hold1
  have HB0 := Lib.hid b0
  have HKW := Lib.hid hkw
  have HSZ := Lib.hid hsz
  rw [eW]
  obtain ⟨k0, k1, k2, k3, k4, fk⟩ := ix_cells b0
  clear eW b0 fk c0 c1 c2 c3 c4 hkw hsz
  have q0 : (0 : Int) ≤ (k : Int) := by omega
  refine wp_region_noPanic ?_
  refine wp_region_pop_at 26 (by kernel_rfl) (by kernel_rfl) rfl (by kernel_rfl) (by kernel_rfl) (by kernel_rfl) ?_
  simp only [List.take_succ_cons, List.take_zero]
  refine wpAny_of_held (S := fun w' => w'.cell? ⟨b, 2, none⟩ = some (.int .i64 (n : Int)) ∧ w'.cell? ⟨b, 4, none⟩ = some (.slice (some ⟨g, 0, none⟩) k cap)) _ _ _ _ ?_
  have hHeld : W.drew.cell? ⟨b, 2, none⟩ = some (.int .i64 (n : Int)) ∧ W.drew.cell? ⟨b, 4, none⟩ = some (.slice (some ⟨g, 0, none⟩) k cap) := ⟨k2, k4⟩
  refine wpAnyH_take (i := 0) (v := .pointer (some ⟨b, 0, none⟩)) rfl (by kernel_rfl) (by kernel_rfl) (by kernel_rfl) (fun _ _ _ h => h) (Or.inl ⟨by rfl, fun w' _ => by go_simp⟩) hHeld ?_
  refine wpAnyH_take (i := 1) (v := .pointer (some ⟨b, 0, none⟩)) rfl (by kernel_rfl) (by kernel_rfl) (by kernel_rfl) (fun _ _ _ h => h) (Or.inl ⟨by rfl, fun w' _ => by go_simp⟩) hHeld ?_
  refine wpAnyH_take (i := 2) (v := .pointer (some ⟨b, 0, none⟩)) rfl (by kernel_rfl) (by kernel_rfl) (by kernel_rfl) (fun _ _ _ h => h) (Or.inl ⟨by rfl, fun w' _ => by go_simp⟩) hHeld ?_
  refine wpAnyH_take (i := 3) (v := .pointer (some ⟨b, 4, none⟩)) rfl (by kernel_rfl) (by kernel_rfl) (by kernel_rfl) (fun _ _ _ h => h) (Or.inl ⟨by rfl, fun w' _ => by go_simp⟩) hHeld ?_
  refine wpAnyH_take (i := 4) (v := .slice (some ⟨g, 0, none⟩) k cap) rfl (by kernel_rfl) (by kernel_rfl) (by kernel_rfl) (fun _ _ _ h => h) (Or.inl ⟨by rfl, fun w' hS => by obtain ⟨hS2, hS4⟩ := hS; go_simp⟩) hHeld ?_
  refine wpAnyH_take (i := 5) (v := .pointer (some ⟨b, 0, none⟩)) rfl (by kernel_rfl) (by kernel_rfl) (by kernel_rfl) (fun _ _ _ h => h) (Or.inl ⟨by rfl, fun w' _ => by go_simp⟩) hHeld ?_
  refine wpAnyH_take (i := 6) (v := .pointer (some ⟨b, 0, none⟩)) rfl (by kernel_rfl) (by kernel_rfl) (by kernel_rfl) (fun _ _ _ h => h) (Or.inl ⟨by rfl, fun w' _ => by go_simp⟩) hHeld ?_
  refine wpAnyH_take (i := 7) (v := .pointer (some ⟨b, 4, none⟩)) rfl (by kernel_rfl) (by kernel_rfl) (by kernel_rfl) (fun _ _ _ h => h) (Or.inl ⟨by rfl, fun w' _ => by go_simp⟩) hHeld ?_
  refine wpAnyH_take (i := 8) (v := .slice (some ⟨g, 0, none⟩) k cap) rfl (by kernel_rfl) (by kernel_rfl) (by kernel_rfl) (fun _ _ _ h => h) (Or.inl ⟨by rfl, fun w' hS => by obtain ⟨hS2, hS4⟩ := hS; go_simp⟩) hHeld ?_
  refine wpAnyH_take (i := 9) (v := .int .i64 k) rfl (by kernel_rfl) (by kernel_rfl) (by kernel_rfl) (fun _ _ _ h => h) (Or.inl ⟨by rfl, fun w' _ => by go_simp⟩) hHeld ?_
  refine wpAnyH_take (i := 10) (v := .pointer (some ⟨b, 0, none⟩)) rfl (by kernel_rfl) (by kernel_rfl) (by kernel_rfl) (fun _ _ _ h => h) (Or.inl ⟨by rfl, fun w' _ => by go_simp⟩) hHeld ?_
  refine wpAnyH_take (i := 11) (v := .pointer (some ⟨b, 0, none⟩)) rfl (by kernel_rfl) (by kernel_rfl) (by kernel_rfl) (fun _ _ _ h => h) (Or.inl ⟨by rfl, fun w' _ => by go_simp⟩) hHeld ?_
  refine wpAnyH_take (i := 12) (v := .pointer (some ⟨b, 4, none⟩)) rfl (by kernel_rfl) (by kernel_rfl) (by kernel_rfl) (fun _ _ _ h => h) (Or.inl ⟨by rfl, fun w' _ => by go_simp⟩) hHeld ?_
  refine wpAnyH_take (i := 13) (v := .slice (some ⟨g, 0, none⟩) k cap) rfl (by kernel_rfl) (by kernel_rfl) (by kernel_rfl) (fun _ _ _ h => h) (Or.inl ⟨by rfl, fun w' hS => by obtain ⟨hS2, hS4⟩ := hS; go_simp⟩) hHeld ?_
  refine wpAnyH_take (i := 14) (v := .int .i64 k) rfl (by kernel_rfl) (by kernel_rfl) (by kernel_rfl) (fun _ _ _ h => h) (Or.inl ⟨by rfl, fun w' _ => by go_simp⟩) hHeld ?_
  refine wpAnyH_take (i := 15) (v := .slice (some ⟨g, 0, none⟩) k k) rfl (by kernel_rfl) (by kernel_rfl) (by kernel_rfl) (fun _ _ _ h => h) (Or.inl ⟨by rfl, fun w' _ => by go_simp⟩) hHeld ?_
  refine wpAnyH_take (i := 16) (v := .pointer (some ⟨b, 0, none⟩)) rfl (by kernel_rfl) (by kernel_rfl) (by kernel_rfl) (fun _ _ _ h => h) (Or.inl ⟨by rfl, fun w' _ => by go_simp⟩) hHeld ?_
  refine wpAnyH_take (i := 17) (v := .pointer (some ⟨b, 0, none⟩)) rfl (by kernel_rfl) (by kernel_rfl) (by kernel_rfl) (fun _ _ _ h => h) (Or.inl ⟨by rfl, fun w' _ => by go_simp⟩) hHeld ?_
  refine wpAnyH_take (i := 18) (v := .pointer (some ⟨b, 2, none⟩)) rfl (by kernel_rfl) (by kernel_rfl) (by kernel_rfl) (fun _ _ _ h => h) (Or.inl ⟨by rfl, fun w' _ => by go_simp⟩) hHeld ?_
  refine wpAnyH_take (i := 19) (v := .int .i64 n) rfl (by kernel_rfl) (by kernel_rfl) (by kernel_rfl) (fun _ _ _ h => h) (Or.inl ⟨by rfl, fun w' hS => by obtain ⟨hS2, hS4⟩ := hS; go_simp⟩) hHeld ?_
  refine wpAnyH_take (i := 20) (v := .int .i64 p) rfl (by kernel_rfl) (by kernel_rfl) (by kernel_rfl) (fun _ _ _ h => h) (Or.inl ⟨by rfl, fun w' _ => by go_simp⟩) hHeld ?_
  refine wpAnyH_take (i := 21) (v := .agg #[.int .i64 n, .int .i64 p]) rfl (by kernel_rfl) (by kernel_rfl) (by kernel_rfl) (fun _ _ _ h => h) (Or.inl ⟨by rfl, fun w' _ => by go_simp⟩) hHeld ?_
  refine wpAnyH_ready (rs := [22]) (by kernel_rfl) (by simp) ?_
  refine AllReadyH.cons rfl (fun K hK => ?_) AllReadyH.nil
  go_simp
  refine hK.out _ _ ⟨(World.cell?_of_block (heap_alloc_old _ _ _ (Array.getElem?_eq_some_iff.1 HB0.out).1)).trans k2, (World.cell?_of_block (heap_alloc_old _ _ _ (Array.getElem?_eq_some_iff.1 HB0.out).1)).trans k4⟩ (fun hHeld => ?_)
  clear hK K
  refine wpAnyH_ready (rs := [23]) (by kernel_rfl) (by simp) ?_
  refine AllReadyH.cons rfl (fun K hK => ?_) AllReadyH.nil
  refine step_append_grows (by rfl) (.tmp 34) (.tmp 41) _ (by rfl) 44 i0 _ 2 16 Try.underlying37 hi hz0 hz1 hz2 rfl (by omega) ((some ⟨g, 0, none⟩)) k k olds (by rfl) (fun h => by cases h) hlo (HO1.out _)
        ⟨W.heap.size, 0, none⟩ 1 1 [.int .i64 (n : Int), .int .i64 p] (by rfl) (by rfl) (World.news_of_block (cs := #[.int .i64 (n : Int), .int .i64 p]) (t := 44) (fr := (0, 0)) (heap_alloc_new W _)) (by simp [Value.oneCell'])
        (by omega) (by unfold maxLen; omega) (by omega) ?_
  intro v' w1 hown hgrow
  obtain ⟨g', cap', rfl⟩ := ownsRow_succ hown
  have hw1 := grown_old HB0.out _ hgrow
  obtain ⟨z0, z1, z2, z3, z4, zf⟩ := ix_cells hw1
  refine hK.out _ _ ⟨z2, z4⟩ (fun hHeld => ?_)
  clear hK K
  refine wpAnyH_take (i := 24) (v := .pointer (some ⟨b, 0, none⟩)) rfl (by kernel_rfl) (by kernel_rfl) (by kernel_rfl) (fun _ _ _ h => h) (Or.inl ⟨by rfl, fun w' _ => by go_simp⟩) hHeld ?_
  refine wpAnyH_take (i := 25) (v := .pointer (some ⟨b, 4, none⟩)) rfl (by kernel_rfl) (by kernel_rfl) (by kernel_rfl) (fun _ _ _ h => h) (Or.inl ⟨by rfl, fun w' _ => by go_simp⟩) hHeld ?_
  refine wpAnyH_done (by kernel_rfl) ?_ _
  simp only [popQ]
  have zf4 := zf 4
  have hX := ix_set4 (u := .slice (some ⟨g', 0, none⟩) (k + 1) cap') hw1
  have HR := Lib.hid (row_setCell (j := 4) (ownsRow_mono (B' := 1) (by simpa using hown)) hw1 (by decide) (.slice (some ⟨g', 0, none⟩) (k + 1) cap'))
  have HK := Lib.hid ((keepX_grown HKW.out _ hgrow).setCell (p := ⟨b, 4, none⟩) rfl (.slice (some ⟨g', 0, none⟩) (k + 1) cap'))
  have HX := Lib.hid hX
  obtain ⟨y0, y1, y2, y3, y4, yf⟩ := ix_cells hX
  have yf2 := yf 2
  clear hX yf hown hgrow hw1 z0 z1 z2 z3 zf hHeld
  go_simp
  obtain ⟨w2, e2⟩ : ∃ w2, w1.setCell ⟨b, 4, none⟩ (.slice (some ⟨g', 0, none⟩) (k + 1) cap') = w2 := ⟨_, rfl⟩
  rw [e2] at HR HK HX y0 y1 y2 y3 y4 yf2 ⊢
  clear e2 z4 zf4
  refine NoPanic.normal ?_
  go_wp2_with fail
  go_end0
  refine ⟨rfl, g', cap', ix_set2 (m := n + 1) HX.out, ?_, HK.out.setCell (p := ⟨b, 2, none⟩) rfl _⟩
  rw [← HSZ.out]
  exact row_setCell HR.out HX.out (by decide) _

set_option maxRecDepth 100000 in
set_option maxHeartbeats 3200000 in
theorem mark_first (b e f gd p n : Nat) (olds : List Value) (w : World) (he : 0 < e) (hfn : f ≤ n) (hn : n ≤ 1000000000) (hb : w.heap[b]? = some (.cells (ixC e f n gd (.slice none 0 0)) 64)) (hm : (n - f) % e = 0)
    (hlo : olds.length = 0 * 2) :
    Calls Try.prog 30 #[.pointer (some ⟨b, 0, none⟩), .int .i64 p] w fun e' w' => e' = .returned (.tuple #[]) ∧ ∃ g' cap', w'.heap[b]? = some (.cells (ixC e f (n + 1) gd (.slice (some ⟨g', 0, none⟩) (0 + 1) cap')) 64) ∧
        w'.ownsRow w.heap.size 44 2 (.slice (some ⟨g', 0, none⟩) (0 + 1) cap') (0 + 1) (olds ++ [.int .i64 n, .int .i64 p]) ∧ KeepX (fun i => i = b) w w' := by
  obtain ⟨c0, c1, c2, c3, c4, fz⟩ := ix_cells hb
  have g0 : (0 : Int) < (e : Int) := by omega
  have d0 : (((n : Int) - (f : Int)) % (e : Int) == 0) = true := by
    rw [show (n : Int) - (f : Int) = ((n - f : Nat) : Int) by omega, ← Int.natCast_emod, hm]; rfl
  have HB := Lib.hid hb
  clear fz hb
  obtain ⟨i0, hi, hz0, hz1, hz2⟩ := info_parts infoM
  go_enter Try.func30, Try.ntmps30
  go_wp2_with fail
  go_quiet (fail)
  go_wp2_with fail
  obtain ⟨W, eW⟩ : ∃ W, w.drewN nq = W := ⟨_, rfl⟩
  have hkw : KeepX (fun i => i = b) w W := by rw [← eW]; exact KeepX.of_below (bel_drewN (Below.refl _ _) _)
  have hsz : W.heap.size = w.heap.size := by rw [← eW]; rfl
  have b0 : W.heap[b]? = some (.cells (ixC e f n gd (.slice none 0 0)) 64) := by rw [← eW]; exact HB.out
  have HB0 := Lib.hid b0
  have HKW := Lib.hid hkw
  have HSZ := Lib.hid hsz
  rw [eW]
  obtain ⟨k0, k1, k2, k3, k4, fk⟩ := ix_cells b0
  clear eW b0 fk c0 c1 c2 c3 c4 hkw hsz
  have q0 : (0 : Int) ≤ (0 : Int) := by omega
  refine wp_region_noPanic ?_
  refine wp_region_pop_at 26 (by kernel_rfl) (by kernel_rfl) rfl (by kernel_rfl) (by kernel_rfl) (by kernel_rfl) ?_
  simp only [List.take_succ_cons, List.take_zero]
  refine wpAny_of_held (S := fun w' => w'.cell? ⟨b, 2, none⟩ = some (.int .i64 (n : Int)) ∧ w'.cell? ⟨b, 4, none⟩ = some (.slice none 0 0)) _ _ _ _ ?_
  have hHeld : W.drew.cell? ⟨b, 2, none⟩ = some (.int .i64 (n : Int)) ∧ W.drew.cell? ⟨b, 4, none⟩ = some (.slice none 0 0) := ⟨k2, k4⟩
  refine wpAnyH_take (i := 0) (v := .pointer (some ⟨b, 0, none⟩)) rfl (by kernel_rfl) (by kernel_rfl) (by kernel_rfl) (fun _ _ _ h => h) (Or.inl ⟨by rfl, fun w' _ => by go_simp⟩) hHeld ?_
  refine wpAnyH_take (i := 1) (v := .pointer (some ⟨b, 0, none⟩)) rfl (by kernel_rfl) (by kernel_rfl) (by kernel_rfl) (fun _ _ _ h => h) (Or.inl ⟨by rfl, fun w' _ => by go_simp⟩) hHeld ?_
  refine wpAnyH_take (i := 2) (v := .pointer (some ⟨b, 0, none⟩)) rfl (by kernel_rfl) (by kernel_rfl) (by kernel_rfl) (fun _ _ _ h => h) (Or.inl ⟨by rfl, fun w' _ => by go_simp⟩) hHeld ?_
  refine wpAnyH_take (i := 3) (v := .pointer (some ⟨b, 4, none⟩)) rfl (by kernel_rfl) (by kernel_rfl) (by kernel_rfl) (fun _ _ _ h => h) (Or.inl ⟨by rfl, fun w' _ => by go_simp⟩) hHeld ?_
  refine wpAnyH_take (i := 4) (v := .slice none 0 0) rfl (by kernel_rfl) (by kernel_rfl) (by kernel_rfl) (fun _ _ _ h => h) (Or.inl ⟨by rfl, fun w' hS => by obtain ⟨hS2, hS4⟩ := hS; go_simp⟩) hHeld ?_
  refine wpAnyH_take (i := 5) (v := .pointer (some ⟨b, 0, none⟩)) rfl (by kernel_rfl) (by kernel_rfl) (by kernel_rfl) (fun _ _ _ h => h) (Or.inl ⟨by rfl, fun w' _ => by go_simp⟩) hHeld ?_
  refine wpAnyH_take (i := 6) (v := .pointer (some ⟨b, 0, none⟩)) rfl (by kernel_rfl) (by kernel_rfl) (by kernel_rfl) (fun _ _ _ h => h) (Or.inl ⟨by rfl, fun w' _ => by go_simp⟩) hHeld ?_
  refine wpAnyH_take (i := 7) (v := .pointer (some ⟨b, 4, none⟩)) rfl (by kernel_rfl) (by kernel_rfl) (by kernel_rfl) (fun _ _ _ h => h) (Or.inl ⟨by rfl, fun w' _ => by go_simp⟩) hHeld ?_
  refine wpAnyH_take (i := 8) (v := .slice none 0 0) rfl (by kernel_rfl) (by kernel_rfl) (by kernel_rfl) (fun _ _ _ h => h) (Or.inl ⟨by rfl, fun w' hS => by obtain ⟨hS2, hS4⟩ := hS; go_simp⟩) hHeld ?_
  refine wpAnyH_take (i := 9) (v := .int .i64 0) rfl (by kernel_rfl) (by kernel_rfl) (by kernel_rfl) (fun _ _ _ h => h) (Or.inl ⟨by rfl, fun w' _ => by go_simp⟩) hHeld ?_
  refine wpAnyH_take (i := 10) (v := .pointer (some ⟨b, 0, none⟩)) rfl (by kernel_rfl) (by kernel_rfl) (by kernel_rfl) (fun _ _ _ h => h) (Or.inl ⟨by rfl, fun w' _ => by go_simp⟩) hHeld ?_
  refine wpAnyH_take (i := 11) (v := .pointer (some ⟨b, 0, none⟩)) rfl (by kernel_rfl) (by kernel_rfl) (by kernel_rfl) (fun _ _ _ h => h) (Or.inl ⟨by rfl, fun w' _ => by go_simp⟩) hHeld ?_
  refine wpAnyH_take (i := 12) (v := .pointer (some ⟨b, 4, none⟩)) rfl (by kernel_rfl) (by kernel_rfl) (by kernel_rfl) (fun _ _ _ h => h) (Or.inl ⟨by rfl, fun w' _ => by go_simp⟩) hHeld ?_
  refine wpAnyH_take (i := 13) (v := .slice none 0 0) rfl (by kernel_rfl) (by kernel_rfl) (by kernel_rfl) (fun _ _ _ h => h) (Or.inl ⟨by rfl, fun w' hS => by obtain ⟨hS2, hS4⟩ := hS; go_simp⟩) hHeld ?_
  refine wpAnyH_take (i := 14) (v := .int .i64 0) rfl (by kernel_rfl) (by kernel_rfl) (by kernel_rfl) (fun _ _ _ h => h) (Or.inl ⟨by rfl, fun w' _ => by go_simp⟩) hHeld ?_
  refine wpAnyH_take (i := 15) (v := .slice none 0 0) rfl (by kernel_rfl) (by kernel_rfl) (by kernel_rfl) (fun _ _ _ h => h) (Or.inl ⟨by rfl, fun w' _ => by go_simp⟩) hHeld ?_
  refine wpAnyH_take (i := 16) (v := .pointer (some ⟨b, 0, none⟩)) rfl (by kernel_rfl) (by kernel_rfl) (by kernel_rfl) (fun _ _ _ h => h) (Or.inl ⟨by rfl, fun w' _ => by go_simp⟩) hHeld ?_
  refine wpAnyH_take (i := 17) (v := .pointer (some ⟨b, 0, none⟩)) rfl (by kernel_rfl) (by kernel_rfl) (by kernel_rfl) (fun _ _ _ h => h) (Or.inl ⟨by rfl, fun w' _ => by go_simp⟩) hHeld ?_
  refine wpAnyH_take (i := 18) (v := .pointer (some ⟨b, 2, none⟩)) rfl (by kernel_rfl) (by kernel_rfl) (by kernel_rfl) (fun _ _ _ h => h) (Or.inl ⟨by rfl, fun w' _ => by go_simp⟩) hHeld ?_
  refine wpAnyH_take (i := 19) (v := .int .i64 n) rfl (by kernel_rfl) (by kernel_rfl) (by kernel_rfl) (fun _ _ _ h => h) (Or.inl ⟨by rfl, fun w' hS => by obtain ⟨hS2, hS4⟩ := hS; go_simp⟩) hHeld ?_
  refine wpAnyH_take (i := 20) (v := .int .i64 p) rfl (by kernel_rfl) (by kernel_rfl) (by kernel_rfl) (fun _ _ _ h => h) (Or.inl ⟨by rfl, fun w' _ => by go_simp⟩) hHeld ?_
  refine wpAnyH_take (i := 21) (v := .agg #[.int .i64 n, .int .i64 p]) rfl (by kernel_rfl) (by kernel_rfl) (by kernel_rfl) (fun _ _ _ h => h) (Or.inl ⟨by rfl, fun w' _ => by go_simp⟩) hHeld ?_
  refine wpAnyH_ready (rs := [22]) (by kernel_rfl) (by simp) ?_
  refine AllReadyH.cons rfl (fun K hK => ?_) AllReadyH.nil
  go_simp
  refine hK.out _ _ ⟨(World.cell?_of_block (heap_alloc_old _ _ _ (Array.getElem?_eq_some_iff.1 HB0.out).1)).trans k2, (World.cell?_of_block (heap_alloc_old _ _ _ (Array.getElem?_eq_some_iff.1 HB0.out).1)).trans k4⟩ (fun hHeld => ?_)
  clear hK K
  refine wpAnyH_ready (rs := [23]) (by kernel_rfl) (by simp) ?_
  refine AllReadyH.cons rfl (fun K hK => ?_) AllReadyH.nil
  refine step_append_grows (by rfl) (.tmp 34) (.tmp 41) _ (by rfl) 44 i0 _ 2 16 Try.underlying37 hi hz0 hz1 hz2 rfl (by omega) (none) 0 0 olds (by rfl) (fun h => ⟨rfl, rfl⟩) hlo (fun _ h => by cases h)
        ⟨W.heap.size, 0, none⟩ 1 1 [.int .i64 (n : Int), .int .i64 p] (by rfl) (by rfl) (World.news_of_block (cs := #[.int .i64 (n : Int), .int .i64 p]) (t := 44) (fr := (0, 0)) (heap_alloc_new W _)) (by simp [Value.oneCell'])
        (by omega) (by unfold maxLen; omega) (by omega) ?_
  intro v' w1 hown hgrow
  obtain ⟨g', cap', rfl⟩ := ownsRow_succ hown
  have hw1 := grown_old HB0.out _ hgrow
  obtain ⟨z0, z1, z2, z3, z4, zf⟩ := ix_cells hw1
  refine hK.out _ _ ⟨z2, z4⟩ (fun hHeld => ?_)
  clear hK K
  refine wpAnyH_take (i := 24) (v := .pointer (some ⟨b, 0, none⟩)) rfl (by kernel_rfl) (by kernel_rfl) (by kernel_rfl) (fun _ _ _ h => h) (Or.inl ⟨by rfl, fun w' _ => by go_simp⟩) hHeld ?_
  refine wpAnyH_take (i := 25) (v := .pointer (some ⟨b, 4, none⟩)) rfl (by kernel_rfl) (by kernel_rfl) (by kernel_rfl) (fun _ _ _ h => h) (Or.inl ⟨by rfl, fun w' _ => by go_simp⟩) hHeld ?_
  refine wpAnyH_done (by kernel_rfl) ?_ _
  simp only [popQ]
  have zf4 := zf 4
  have hX := ix_set4 (u := .slice (some ⟨g', 0, none⟩) (0 + 1) cap') hw1
  have HR := Lib.hid (row_setCell (j := 4) (ownsRow_mono (B' := 1) (by simpa using hown)) hw1 (by decide) (.slice (some ⟨g', 0, none⟩) (0 + 1) cap'))
  have HK := Lib.hid ((keepX_grown HKW.out _ hgrow).setCell (p := ⟨b, 4, none⟩) rfl (.slice (some ⟨g', 0, none⟩) (0 + 1) cap'))
  have HX := Lib.hid hX
  obtain ⟨y0, y1, y2, y3, y4, yf⟩ := ix_cells hX
  have yf2 := yf 2
  clear hX yf hown hgrow hw1 z0 z1 z2 z3 zf hHeld
  go_simp
  obtain ⟨w2, e2⟩ : ∃ w2, w1.setCell ⟨b, 4, none⟩ (.slice (some ⟨g', 0, none⟩) (0 + 1) cap') = w2 := ⟨_, rfl⟩
  rw [e2] at HR HK HX y0 y1 y2 y3 y4 yf2 ⊢
  clear e2 z4 zf4
  refine NoPanic.normal ?_
  go_wp2_with fail
  go_end0
  refine ⟨rfl, g', cap', ix_set2 (m := n + 1) HX.out, ?_, HK.out.setCell (p := ⟨b, 2, none⟩) rfl _⟩
  rw [← HSZ.out]
  exact row_setCell HR.out HX.out (by decide) _

end Go.Proofs.Ytmeefecpnfclpaa
