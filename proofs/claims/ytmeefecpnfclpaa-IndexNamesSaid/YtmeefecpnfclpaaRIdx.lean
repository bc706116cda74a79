/- Walks over the reference soukref12: Build. (Printed by gen_ridx.py out of ridx.txt.) -/
import Derived.Test.YtmeefecpnfclpaaRSeg
import Derived.Test.YtmeefecpnfclpaaIdxBd
import Derived.Deep.AppendLies
namespace Go.Proofs.Ytmeefecpnfclpaa
open Go.RowKit

/-- integers in a row -/
def ints (ps : List Nat) : List Value := ps.map fun (p : Nat) => Value.int .i64 (p : Int)
theorem ints_len (ps : List Nat) : (ints ps).length = ps.length := by unfold ints; simp
theorem ints_get (ps : List Nat) (j : Nat) (h : j < ps.length) : (ints ps)[j]? = some (.int .i64 ((ps.getD j 0 : Nat) : Int)) := by
  unfold ints; rw [List.getElem?_map, List.getD_eq_getElem?_getD, List.getElem?_eq_getElem h]; rfl
theorem ints_snoc (ps : List Nat) (p : Nat) : ints (ps ++ [p]) = ints ps ++ [.int .i64 p] := by unfold ints; simp
/-- the reference's index -/
def rxC (f e : Nat) (v : Value) (gd : Nat) : Array Value := #[.int .i64 f, .int .i64 e, v, .int .i64 gd]
theorem rx_cells {w : World} {b f e gd : Nat} {v : Value} (h : w.heap[b]? = some (.cells (rxC f e v gd) 72)) :
    w.cell? ⟨b, 0, none⟩ = some (.int .i64 f) ∧ w.cell? ⟨b, 1, none⟩ = some (.int .i64 e) ∧ w.cell? ⟨b, 2, none⟩ = some v ∧ w.cell? ⟨b, 3, none⟩ = some (.int .i64 gd) ∧ ∀ j, w.frozen? ⟨b, j, none⟩ = false :=
  ⟨by rw [cell_of_row _ _ _ _ _ _ h]; rfl, by rw [cell_of_row _ _ _ _ _ _ h]; rfl, by rw [cell_of_row _ _ _ _ _ _ h]; rfl, by rw [cell_of_row _ _ _ _ _ _ h]; rfl, fun j => frozen_of_row _ _ _ _ _ h⟩
theorem infoInt : (Try.prog.info? 3).map (fun i => (i.zero, i.size, i.bytes)) = some (some (.int .i64 0), 1, 8) := by kernel_rfl
/-- in memory: its block, its row (of the call's own blocks) -/
def Rxr (B : Nat) (w : World) (b e f : Nat) (ps : List Nat) (gd : Nat) : Prop :=
  B ≤ b ∧ ∃ v, w.heap[b]? = some (.cells (rxC f e v gd) 72) ∧ w.ownsRow B 3 1 v ps.length (ints ps)
theorem Rxr.lt {B : Nat} {w : World} {b e f gd : Nat} {ps : List Nat} (h : Rxr B w b e f ps gd) : b < w.heap.size := by obtain ⟨_, v, h1, _⟩ := h; exact (Array.getElem?_eq_some_iff.1 h1).1
theorem Rxr.keep {B : Nat} {w w' : World} {b e f gd : Nat} {ps : List Nat} (h : Rxr B w b e f ps gd) (hb : Below w.heap.size w w') : Rxr B w' b e f ps gd := by
  obtain ⟨h0, v, h1, h2⟩ := h
  exact ⟨h0, v, (hb.block b (Array.getElem?_eq_some_iff.1 h1).1).trans h1, ownsRow_below h2 hb⟩
theorem rfrow_cells {w : World} {B cap n : Nat} {oa : Option Addr} {xs : List Value} (h : w.ownsRow B 73 3 (.slice oa n cap) n xs) (h0 : 0 < n) :
    ∃ g, oa = some ⟨g, 0, none⟩ ∧ g < w.heap.size ∧ B ≤ g ∧ ∀ (j : Nat) v, xs[j]? = some v → w.cell? ⟨g, j, none⟩ = some v := by
  rcases h.2 with ⟨_, hn⟩ | ⟨g, c, cur, hv, hB, hcur, _⟩
  · subst hn; cases h0
  · cases hv
    have add : ∀ j, (⟨g, 0, none⟩ : Addr).add j = ⟨g, j, none⟩ := fun j => by unfold Addr.add; split <;> simp_all
    refine ⟨g, rfl, (Array.getElem?_eq_some_iff.1 hcur).1, hB, fun j v hj => ?_⟩
    have c0 := h.cells (g := g) rfl j v hj
    rwa [add] at c0

set_option maxHeartbeats 1000000 in
theorem rbuild_arg (s : ByteArray) (e : Int) (w : World) (h : e < 1 ∨ 64 < e) :
    Calls Try.prog 11 #[.string s, .int .i64 e] w fun e' w' => e' = .returned (.tuple #[.pointer none, .int .i64 1]) ∧ Below w.heap.size w w' := by
  by_cases h1 : e < 1
  · have d1 : decide (e < 1) = true := decide_eq_true h1
    go_enter Try.func11, Try.ntmps11
    go_wp2_with fail
    go_ret2
    exact ⟨rfl, Below.refl _ _⟩
  · have d1 : decide (e < 1) = false := decide_eq_false h1
    have d2 : decide ((64 : Int) < e) = true := decide_eq_true (by omega)
    go_enter Try.func11, Try.ntmps11
    go_wp2_with fail
    go_ret2
    exact ⟨rfl, Below.refl _ _⟩
set_option maxHeartbeats 1000000 in
theorem rbuild_bad (s : ByteArray) (e : Int) (w : World) (hs : s.size ≤ 1000000) (h1 : 1 ≤ e) (h2 : e ≤ 64) (h : hdE s.data.toList ≠ 0) :
    Calls Try.prog 11 #[.string s, .int .i64 e] w fun e' w' => e' = .returned (.tuple #[.pointer none, .int .i64 (hdE s.data.toList)]) ∧ Below w.heap.size w w' := by
  have d1 : decide (e < 1) = false := decide_eq_false (by omega)
  have d2 : decide ((64 : Int) < e) = false := decide_eq_false (by omega)
  have hf := rsscan_bad s w hs h
  obtain ⟨E, hE⟩ : ∃ E, hdE s.data.toList = E := ⟨_, rfl⟩
  rw [hE] at hf h ⊢
  have d3 : ((E : Int) != 0) = true := by rw [bne_iff_ne]; omega
  unfold sgZero sgC at hf
  have HF := Lib.hid hf
  clear hf hE h
  go_enter Try.func11, Try.ntmps11
  go_wp2_with fail
  refine HF.out.mono ?_
  rintro e' w1 ⟨rfl, hb1⟩
  go_wp2_with fail
  go_ret2
  exact ⟨rfl, bel_alloc hb1 _⟩

set_option maxRecDepth 100000 in
set_option maxHeartbeats 4000000 in
theorem rbuild_ok (s : ByteArray) (e : Nat) (w : World) (hs : s.size ≤ 1000000) (h1 : 1 ≤ e) (h2 : e ≤ 64) (h : hdE s.data.toList = 0) :
    Calls Try.prog 11 #[.string s, .int .i64 e] w fun e' w' => ∃ b, e' = .returned (.tuple #[.pointer (some ⟨b, 0, none⟩), .int .i64 0]) ∧
      Rxr w.heap.size w' b e (hdF s.data.toList) (scanL s.data.toList 16 (hdF s.data.toList)) (scanG s.data.toList 16 (hdF s.data.toList)) ∧ Below w.heap.size w w' := by
  have d1 : decide ((e : Int) < 1) = false := decide_eq_false (by omega)
  have d2 : decide ((64 : Int) < (e : Int)) = false := decide_eq_false (by omega)
  have hf := rsscan_ok s w hs h
  have hF := (hd_ok h).2.2.2
  have hlen : (scanL s.data.toList 16 (hdF s.data.toList)).length * 16 ≤ 1000000 := by
    have hl : s.data.toList.length = s.size := rfl
    have h16 := (hd_ok h).1
    have := scanP_len s.data.toList (s.data.toList.length + 1) 16 (hdF s.data.toList) h16
    unfold scanL
    rw [if_neg (by omega)]
    show (scanP s.data.toList (s.data.toList.length + 1) 16 (hdF s.data.toList)).length * 16 ≤ _
    omega
  generalize hdF s.data.toList = F at hf hF hlen ⊢
  generalize scanG s.data.toList 16 F = G at hf ⊢
  generalize scanL s.data.toList 16 F = ps at hf hlen ⊢
  have hat := frRow_at s ps
  obtain ⟨n, hn⟩ : ∃ n, ps.length = n := ⟨_, rfl⟩
  obtain ⟨X, hX⟩ : ∃ X, frRow s ps = X := ⟨_, rfl⟩
  rw [hn, hX] at hf hat
  rw [hn] at hlen
  obtain ⟨wh, hwh⟩ : ∃ wh, decide (G = s.size) = wh := ⟨_, rfl⟩
  rw [hwh] at hf
  unfold sgC at hf
  obtain ⟨i0, hi, hz0, hz1, hz2⟩ := info_parts infoInt
  have HF := Lib.hid hf
  have HA := Lib.hid hat
  have HN := Lib.hid hn
  clear hf hat hn hX hwh h
  go_enter Try.func11, Try.ntmps11
  go_wp2_with fail
  refine HF.out.mono ?_
  rintro e' w1 ⟨oa, cap, rfl, ho, hb1⟩
  have HO := Lib.hid ho
  have HB1 := Lib.hid hb1
  clear ho hb1 HF
  go_wp2_with fail
  obtain ⟨w3, e3⟩ : ∃ w3, (w1.alloc (.cells #[.int .i64 F, .slice oa n cap, .int .i64 G, .bool wh] 68)).alloc (.cells #[.int .i64 F, .int .i64 e, .slice none 0 0, .int .i64 G] 72) = w3 := ⟨_, rfl⟩
  have hsg : w3.heap[w1.heap.size]? = some (.cells #[.int .i64 F, .slice oa n cap, .int .i64 G, .bool wh] 68) := by rw [← e3]; exact (heap_alloc_old _ _ _ (by simp)).trans (heap_alloc_new _ _)
  have hbk : w3.heap[w1.heap.size + 1]? = some (.cells (rxC F e (.slice none 0 0) G) 72) := by rw [← e3]; exact heap_alloc2_new _ _ _
  have hz3 : w3.heap.size = w1.heap.size + 2 := by rw [← e3]; simp
  have hB3 : Below w1.heap.size w1 w3 := by rw [← e3]; exact ((Below.refl _ _).alloc (Nat.le_refl _) _).alloc (by simp) _
  have HB3 := Lib.hid hB3
  have HSG := Lib.hid hsg
  have HBK := Lib.hid hbk
  rw [e3]
  clear e3 hsg hbk hB3
  go_loopw [9] (fun iv W => ∃ i : Nat, i ≤ n ∧ iv = .int .i64 i ∧ KeepX (fun k => k = w1.heap.size + 1) w3 W ∧ ∃ v, W.heap[w1.heap.size + 1]? = some (.cells (rxC F e v G) 72) ∧ W.ownsRow (w1.heap.size + 2) 3 1 v i (ints (ps.take i))) (fun iv _ => n - (intOf iv).toNat)
  case atStart => exact ⟨0, Nat.zero_le _, rfl, KeepX.refl _ _, _, HBK.out, World.ownsRow_nil _ _ _ _⟩
  case round =>
    obtain ⟨i, hi0, rfl, hkx, v, hblk, hrow⟩ := hrel
    have HK := Lib.hid hkx
    have HV := Lib.hid hblk
    have HR := Lib.hid hrow
    have hsgW := (hkx.block w1.heap.size (by omega) (by omega)).trans HSG.out
    have s1 : wr.cell? ⟨w1.heap.size, 1, none⟩ = some (.slice oa n cap) := by rw [cell_of_row _ _ _ _ _ _ hsgW]; rfl
    clear hkx hblk hrow hsgW
    by_cases hin : i < n
    · obtain ⟨g, rfl, hg, hgB, hrc⟩ := rfrow_cells HO.out (by omega)
      obtain ⟨r1, r2, r3⟩ := HA.out i hin
      have hgk : wr.heap[g]? = w1.heap[g]? := (HK.out.block g (by omega) (by omega)).trans (HB3.out.block g hg)
      have p2 := (World.cell?_of_block (a := ⟨g, i * 3 + 2, none⟩) hgk).trans (hrc _ _ r3)
      obtain ⟨P, hP⟩ : ∃ P, ps.getD i 0 = P := ⟨_, rfl⟩
      have hts : ps.take (i + 1) = ps.take i ++ [P] := by
        rw [List.take_succ_eq_append_getElem (by rw [HN.out]; exact hin), ← hP, List.getD_eq_getElem?_getD, List.getElem?_eq_getElem (by rw [HN.out]; exact hin)]; rfl
      rw [hP] at p2
      have HTS := Lib.hid hts
      obtain ⟨k0, k1, k2, k3, kf⟩ := rx_cells HV.out
      have q0 : (0 : Int) ≤ (i : Int) := by omega
      have q1 : (i : Int) < (n : Int) := by omega
      have hib : i < 1048576 := by omega
      clear hrc r1 r2 r3 hts hP kf
      go_wp2_with fail
      refine wp_region_noPanic ?_
      refine wp_region_pop_at 15 (by kernel_rfl) (by kernel_rfl) rfl (by kernel_rfl) (by kernel_rfl) (by kernel_rfl) ?_
      simp only [List.take_succ_cons, List.take_zero]
      refine wpAny_of_held (S := fun w' => w'.cell? ⟨w1.heap.size + 1, 2, none⟩ = some v ∧ w'.cell? ⟨w1.heap.size, 1, none⟩ = some (.slice (some ⟨g, 0, none⟩) n cap) ∧ w'.cell? ⟨g, i * 3 + 2, none⟩ = some (.int .i64 P)) _ _ _ _ ?_
      have hHeld : wr.drew.cell? ⟨w1.heap.size + 1, 2, none⟩ = some v ∧ wr.drew.cell? ⟨w1.heap.size, 1, none⟩ = some (.slice (some ⟨g, 0, none⟩) n cap) ∧ wr.drew.cell? ⟨g, i * 3 + 2, none⟩ = some (.int .i64 P) := ⟨k2, s1, p2⟩
      refine wpAnyH_take (i := 0) (v := .pointer (some ⟨w1.heap.size + 1, 0, none⟩)) rfl (by kernel_rfl) (by kernel_rfl) (by kernel_rfl) (fun _ _ _ h => h) (Or.inl ⟨by rfl, fun w' _ => by go_simp⟩) hHeld ?_
      refine wpAnyH_take (i := 1) (v := .pointer (some ⟨w1.heap.size + 1, 0, none⟩)) rfl (by kernel_rfl) (by kernel_rfl) (by kernel_rfl) (fun _ _ _ h => h) (Or.inl ⟨by rfl, fun w' _ => by go_simp⟩) hHeld ?_
      refine wpAnyH_take (i := 2) (v := .pointer (some ⟨w1.heap.size + 1, 0, none⟩)) rfl (by kernel_rfl) (by kernel_rfl) (by kernel_rfl) (fun _ _ _ h => h) (Or.inl ⟨by rfl, fun w' _ => by go_simp⟩) hHeld ?_
      refine wpAnyH_take (i := 3) (v := .pointer (some ⟨w1.heap.size + 1, 2, none⟩)) rfl (by kernel_rfl) (by kernel_rfl) (by kernel_rfl) (fun _ _ _ h => h) (Or.inl ⟨by rfl, fun w' _ => by go_simp⟩) hHeld ?_
      refine wpAnyH_take (i := 4) (v := v) rfl (by kernel_rfl) (by kernel_rfl) (by kernel_rfl) (fun _ _ _ h => h) (Or.inl ⟨by rfl, fun w' hS => by obtain ⟨hS2, hS3, hS4⟩ := hS; go_simp⟩) hHeld ?_
      refine wpAnyH_take (i := 5) (v := .pointer (some ⟨w1.heap.size, 1, none⟩)) rfl (by kernel_rfl) (by kernel_rfl) (by kernel_rfl) (fun _ _ _ h => h) (Or.inl ⟨by rfl, fun w' _ => by go_simp⟩) hHeld ?_
      refine wpAnyH_take (i := 6) (v := .slice (some ⟨g, 0, none⟩) n cap) rfl (by kernel_rfl) (by kernel_rfl) (by kernel_rfl) (fun _ _ _ h => h) (Or.inl ⟨by rfl, fun w' hS => by obtain ⟨hS2, hS3, hS4⟩ := hS; go_simp⟩) hHeld ?_
      refine wpAnyH_take (i := 7) (v := .int .i64 i) rfl (by kernel_rfl) (by kernel_rfl) (by kernel_rfl) (fun _ _ _ h => h) (Or.inl ⟨by rfl, fun w' _ => by go_simp⟩) hHeld ?_
      refine wpAnyH_take (i := 8) (v := .pointer (some ⟨g, i * 3, none⟩)) rfl (by kernel_rfl) (by kernel_rfl) (by kernel_rfl) (fun _ _ _ h => h) (Or.inl ⟨by rfl, fun w' _ => by go_simp⟩) hHeld ?_
      refine wpAnyH_take (i := 9) (v := .pointer (some ⟨g, i * 3 + 2, none⟩)) rfl (by kernel_rfl) (by kernel_rfl) (by kernel_rfl) (fun _ _ _ h => h) (Or.inl ⟨by rfl, fun w' _ => by go_simp⟩) hHeld ?_
      refine wpAnyH_take (i := 10) (v := .int .i64 P) rfl (by kernel_rfl) (by kernel_rfl) (by kernel_rfl) (fun _ _ _ h => h) (Or.inl ⟨by rfl, fun w' hS => by obtain ⟨hS2, hS3, hS4⟩ := hS; go_simp⟩) hHeld ?_
      refine wpAnyH_ready (rs := [11]) (by kernel_rfl) (by simp) ?_
      refine AllReadyH.cons rfl (fun K hK => ?_) AllReadyH.nil
      go_simp
      have hzw : w1.heap.size + 2 ≤ wr.heap.size := by have := HK.out.size; omega
      have halloc : ∀ k, k < wr.heap.size → (wr.alloc (.cells #[.int .i64 P] 3)).heap[k]? = wr.heap[k]? := fun k hk => ((Below.refl wr.heap.size wr).alloc (Nat.le_refl _) _).block k hk
      refine hK.out _ _ ⟨(World.cell?_of_block (a := ⟨w1.heap.size + 1, 2, none⟩) (halloc (w1.heap.size + 1) (by omega))).trans k2, (World.cell?_of_block (a := ⟨w1.heap.size, 1, none⟩) (halloc w1.heap.size (by omega))).trans s1, (World.cell?_of_block (a := ⟨g, i * 3 + 2, none⟩) (halloc g (by omega))).trans p2⟩ (fun hHeld => ?_)
      clear hK K
      refine wpAnyH_ready (rs := [12]) (by kernel_rfl) (by simp) ?_
      refine AllReadyH.cons rfl (fun K hK => ?_) AllReadyH.nil
      refine step_append_lies _ (by rfl) (.tmp 42) (.tmp 49) 53 (by rfl) (w1.heap.size + 2) 3 i0 _ 1 8 Try.underlying53 hi hz0 hz1 hz2 rfl (by omega) v i (ints (ps.take i)) (by rfl) (HR.out.alloc _)
        ⟨wr.heap.size, 0, none⟩ 1 1 [.int .i64 P] (by rfl) (by rfl) (World.news_of_block (cs := #[.int .i64 P]) (t := 3) (fr := (0, 0)) (heap_alloc_new wr _)) (by simp [Value.oneCell'])
        (by omega) (by unfold maxLen; omega) (by omega) (by show _ ≤ (wr.alloc _).heap.size; simp; omega) _ rfl ?_
      intro g' cap' w2 hown hgrow _ hgl
      have hkeep : ∀ k, k < w1.heap.size + 2 → w2.heap[k]? = wr.heap[k]? := by
        intro k hk
        rw [hgrow.block k (by show k < (wr.alloc _).heap.size; simp; omega) (fun e => by have := (HR.out.lt k e.symm).1; omega)]
        exact halloc k (by omega)
      have hw2 := (hkeep (w1.heap.size + 1) (by omega)).trans HV.out
      obtain ⟨z0, z1, z2, z3, zf⟩ := rx_cells hw2
      refine hK.out _ _ ⟨z2, (World.cell?_of_block (a := ⟨w1.heap.size, 1, none⟩) (hkeep w1.heap.size (by omega))).trans s1, (World.cell?_of_block (a := ⟨g, i * 3 + 2, none⟩) (hkeep g (by omega))).trans p2⟩ (fun hHeld => ?_)
      clear hK K
      refine wpAnyH_take (i := 13) (v := .pointer (some ⟨w1.heap.size + 1, 0, none⟩)) rfl (by kernel_rfl) (by kernel_rfl) (by kernel_rfl) (fun _ _ _ h => h) (Or.inl ⟨by rfl, fun w' _ => by go_simp⟩) hHeld ?_
      refine wpAnyH_take (i := 14) (v := .pointer (some ⟨w1.heap.size + 1, 2, none⟩)) rfl (by kernel_rfl) (by kernel_rfl) (by kernel_rfl) (fun _ _ _ h => h) (Or.inl ⟨by rfl, fun w' _ => by go_simp⟩) hHeld ?_
      refine wpAnyH_done (by kernel_rfl) ?_ _
      simp only [popQ]
      have zf2 := zf 2
      have hX : (w2.setCell ⟨w1.heap.size + 1, 2, none⟩ (.slice (some ⟨g', 0, none⟩) (i + 1) cap')).heap[w1.heap.size + 1]? = some (.cells (rxC F e (.slice (some ⟨g', 0, none⟩) (i + 1) cap') G) 72) := heap_setCell_same _ _ 2 _ _ _ hw2
      have HX := Lib.hid hX
      have HRR := Lib.hid (row_setCell (j := 2) hown hw2 (by decide) (.slice (some ⟨g', 0, none⟩) (i + 1) cap'))
      have hz2w : wr.heap.size ≤ w2.heap.size := by have := hgrow.size; have h3 : (wr.alloc (.cells #[.int .i64 P] 3)).drew.heap.size = wr.heap.size + 1 := by (show (wr.alloc _).heap.size = _; simp)
                                                    omega
      have hk3 : KeepX (fun k => k = w1.heap.size + 1) w3 w2 := ⟨hgrow.os.trans HK.out.os, hgrow.tape.trans HK.out.tape, hgrow.output.trans HK.out.output, Nat.le_trans HK.out.size hz2w, fun k hk hne => (hkeep k (by omega)).trans (HK.out.block k hk hne)⟩
      have HKK := Lib.hid (hk3.setCell (p := ⟨w1.heap.size + 1, 2, none⟩) rfl (.slice (some ⟨g', 0, none⟩) (i + 1) cap'))
      clear hX hown hgrow hw2 z0 z1 z3 zf hHeld hk3 hkeep halloc
      go_simp
      obtain ⟨w4, e4⟩ : ∃ w4, w2.setCell ⟨w1.heap.size + 1, 2, none⟩ (.slice (some ⟨g', 0, none⟩) (i + 1) cap') = w4 := ⟨_, rfl⟩
      rw [e4] at HX HRR HKK ⊢
      clear e4
      refine NoPanic.normal ?_
      go_wp2_with fail
      refine ⟨⟨i + 1, by omega, rfl, HKK.out, _, HX.out, ?_⟩, ?_⟩
      · rw [HTS.out, ints_snoc]; exact HRR.out
      · simp [intOf]; omega
    · obtain rfl : i = n := by omega
      have HT := Lib.hid (show ps.take i = ps from List.take_of_length_le (by rw [HN.out]; omega))
      rw [HT.out] at HR
      have HW := Lib.hid HB1.out.size
      go_wp2_with fail
      go_ret2
      refine ⟨_, rfl, ⟨by have := HW.out; omega, v, HV.out, ?_⟩, ?_⟩
      · rw [HN.out]
        exact ⟨HR.out.1, HR.out.2.imp id (fun ⟨g, c, cur, e1, e2, e3⟩ => ⟨g, c, cur, e1, by have := HW.out; omega, e3⟩)⟩
      · have h13 : Below w.heap.size w w3 := HB1.out.trans (HB3.out.mono HB1.out.size)
        exact ⟨HK.out.os.trans h13.os, HK.out.tape.trans h13.tape, HK.out.output.trans h13.output, Nat.le_trans h13.size HK.out.size, fun k hk => (HK.out.block k (by have := h13.size; omega) (by have := HW.out; omega)).trans (h13.block k hk)⟩

/-- an index out of a segment's bytes -/
theorem rbuild_any (s : ByteArray) (e : Int) (w : World) (hs : s.size ≤ 1000000) :
    Calls Try.prog 11 #[.string s, .int .i64 e] w fun e' w' =>
      (bdE e s.data.toList ≠ 0 ∧ e' = .returned (.tuple #[.pointer none, .int .i64 (bdE e s.data.toList)]) ∧ Below w.heap.size w w') ∨
      (bdE e s.data.toList = 0 ∧ ∃ b, e' = .returned (.tuple #[.pointer (some ⟨b, 0, none⟩), .int .i64 0]) ∧ Rxr w.heap.size w' b e.toNat (ixF s.data.toList) (ixP s.data.toList) (ixG s.data.toList) ∧ Below w.heap.size w w') := by
  unfold bdE
  by_cases h1 : e < 1 ∨ 64 < e
  · rw [if_pos h1]
    exact (rbuild_arg s e w h1).mono fun e' w' ⟨h, k⟩ => .inl ⟨by omega, h, k⟩
  · rw [if_neg h1]
    by_cases h2 : hdE s.data.toList = 0
    · obtain ⟨N, rfl⟩ : ∃ N : Nat, e = N := ⟨e.toNat, by omega⟩
      exact (rbuild_ok s N w hs (by omega) (by omega) h2).mono fun e' w' ⟨b, h, k⟩ => .inr ⟨h2, b, h, k⟩
    · exact (rbuild_bad s e w hs (by omega) (by omega) h2).mono fun e' w' ⟨h, k⟩ => .inl ⟨h2, h, k⟩

end Go.Proofs.Ytmeefecpnfclpaa
