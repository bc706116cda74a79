/- Walks over the reference soukref11: First, Scan. -/
import Derived.Test.YtaonjbkkgeiniaaGreatDoorSegS
import Derived.Test.YtaonjbkkgeiniaaGreatDoorB4
namespace Go.Proofs.YtaonjbkkgeiniaaGreatDoor
open Go.RowKit

theorem wf_i64 {n : Int} (h0 : 0 ≤ n) (h1 : n ≤ 1000000000) : (Lit.int .i64 n).wf = true := by
  simp [Lit.wf, IntKind.min, IntKind.max, IntKind.signed, IntKind.bits]; omega
theorem num_at (s : ByteArray) (a j c N : Nat) (hc : a + j = c) (h : c < s.size) (h8 : j < 8) (hN : num (sl s.data.toList a j) = N) :
    bits .or .u64 (IntKind.u64.wrap ((N : Int) * 256)) (IntKind.u64.wrap (s[c].toNat : Int)) = ((num (sl s.data.toList a (j + 1)) : Nat) : Int) := by
  subst hc
  have hl : s.data.toList.length = s.size := rfl
  have hsz : (bs (sl s.data.toList a (j + 1))).size = j + 1 := by rw [size_bs]; exact sl_length _ _ _ (by omega)
  have hd : (bs (sl s.data.toList a (j + 1))).data.toList = sl s.data.toList a (j + 1) := bs_data _
  have hst := num_step (bs (sl s.data.toList a (j + 1))) j (by omega) (by omega)
  have ht : (sl s.data.toList a (j + 1)).take j = sl s.data.toList a j := by
    unfold sl; rw [List.take_take, Nat.min_eq_left (by omega)]
  have hg : (bs (sl s.data.toList a (j + 1)))[j]'(by omega) = s[a + j] := by
    show (bs (sl s.data.toList a (j + 1))).data.toList[j]'(by rw [hd, sl_length _ _ _ (by omega)]; omega) = s.data.toList[a + j]
    simp only [hd]
    unfold sl
    rw [List.getElem_take, List.getElem_drop]
  rw [hd, ht, hN, hg] at hst
  rw [hst, List.take_of_length_le (by rw [sl_length _ _ _ (by omega)]; exact Nat.le_refl _)]

set_option maxHeartbeats 2000000 in
theorem rfirst_any (s : ByteArray) (w : World) (hsz : s.size ≤ 1000000) :
    Calls Tryz.prog 22 #[.string s] w fun e w' => e = .returned (hdV s.data.toList) ∧ Below w.heap.size w w' := by
  have hl : s.data.toList.length = s.size := rfl
  unfold hdV hdE
  rw [hl]
  by_cases h : s.size < 16
  · have d1 : decide ((s.size : Int) < 16) = true := decide_eq_true (by omega)
    rw [if_pos h, if_neg (by omega)]
    go_enter Tryz.func22, Tryz.ntmps22
    go_wp2_with fail
    go_ret2
    exact ⟨rfl, Below.refl _ _⟩
  have d1 : decide ((s.size : Int) < 16) = false := decide_eq_false (by omega)
  rw [if_neg h]
  have hpx := prefix_iff s (by omega)
  by_cases hm : s.data.toList.take 4 = magicL
  case neg =>
    rw [decide_eq_false hm] at hpx
    rw [if_pos hm, if_neg (by omega)]
    go_enter Tryz.func22, Tryz.ntmps22
    go_wp2_with fail
    go_ret2
    exact ⟨rfl, Below.refl _ _⟩
  rw [decide_eq_true hm] at hpx
  rw [if_neg (not_not_intro hm)]
  obtain ⟨t1, t2⟩ := take16 s (by omega)
  have hop := fun (b : Bool) (hb : isSealed (s.data.toList.take 16) = b) w' => ropen_any (s.extract 0 16) w' b (by omega) (by omega) (by rw [t1]; exact hb)
  by_cases hse : isSealed (s.data.toList.take 16) = false
  · rw [if_pos hse, if_neg (by omega)]
    have HO := Lib.hid (hop false hse)
    clear hop hse hm t1 t2
    go_enter Tryz.func22, Tryz.ntmps22
    go_wp2_with fail
    refine (HO.out w).mono ?_
    rintro e w1 ⟨rfl, hb1⟩
    go_wp2_with fail
    go_ret2
    exact ⟨rfl, hb1⟩
  · rw [if_neg hse]
    have HO := Lib.hid (hop true (by simpa using hse))
    obtain ⟨F, hF⟩ : ∃ F, num (sl s.data.toList 4 8) = F := ⟨_, rfl⟩
    have hF2 : hdF s.data.toList = F := hF
    have hFb : F < 18446744073709551616 := by
      rw [← hF]
      have h1 := num_lt (sl s.data.toList 4 8)
      rw [sl_length _ _ _ (by omega)] at h1
      exact h1
    rw [hF, hF2]
    obtain ⟨V, hV, hVe⟩ : ∃ V, ((1048576 < F ∧ V = Value.tuple #[.int .i64 0, .int .i64 4]) ∨ (F ≤ 1048576 ∧ V = Value.tuple #[.int .i64 F, .int .i64 0])) ∧
        (if (if 1048576 < F then 4 else 0) = 0 then Value.tuple #[.int .i64 F, .int .i64 0] else Value.tuple #[.int .i64 0, .int .i64 ((if 1048576 < F then 4 else 0 : Nat) : Int)]) = V := by
      by_cases hb : 1048576 < F
      · exact ⟨_, .inl ⟨hb, rfl⟩, by rw [if_pos hb, if_neg (by omega)]; rfl⟩
      · exact ⟨_, .inr ⟨by omega, rfl⟩, by rw [if_neg hb, if_pos rfl]⟩
    rw [hVe]
    have HV := Lib.hid hV
    have HFF := Lib.hid hF
    clear hop hse hm t1 t2 hF hF2 hV hVe
    go_enter Tryz.func22, Tryz.ntmps22
    go_wp2_with fail
    refine (HO.out w).mono ?_
    rintro e w1 ⟨rfl, hb1⟩
    have HB1 := Lib.hid hb1
    clear hb1
    go_wp2_with fail
    go_loop [6, 7] (fun n i => ∃ j : Nat, j ≤ 8 ∧ i = .int .i64 ((4 + j : Nat) : Int) ∧ n = .int .u64 (num (sl s.data.toList 4 j))) (fun _ i => 12 - (intOf i).toNat)
    case atStart => exact ⟨0, by omega, rfl, rfl⟩
    case round =>
      obtain ⟨j, hj, rfl, rfl⟩ := hrel
      by_cases hlt : j < 8
      · obtain ⟨c, ec⟩ : ∃ c, 4 + j = c := ⟨_, rfl⟩
        obtain ⟨N, eN⟩ : ∃ N, num (sl s.data.toList 4 j) = N := ⟨_, rfl⟩
        have hna := num_at s 4 j c N ec (by omega) hlt eN
        rw [ec, eN]
        have hd : decide ((c : Int) < 12) = true := decide_eq_true (by omega)
        have hlt2 : c < s.size := by omega
        have hlt3 : (c : Int) < (s.size : Int) := by omega
        have hlt4 : (0 : Int) ≤ (c : Int) := by omega
        have HN := Lib.hid hna
        have EC := Lib.hid ec
        clear hna eN
        go_wp2_with fail
        refine ⟨⟨j + 1, by omega, val_int (by omega), ?_⟩, ?_⟩
        · rw [HN.out]
        · simp [intOf]; omega
      · obtain rfl : j = 8 := by omega
        rw [HFF.out]
        rcases HV.out with ⟨hbig, rfl⟩ | ⟨hbig, rfl⟩
        · have hd : decide ((1048576 : Int) < (F : Int)) = true := decide_eq_true (by omega)
          go_wp2_with fail
          go_ret2
          exact ⟨rfl, HB1.out⟩
        · have hd : decide ((1048576 : Int) < (F : Int)) = false := decide_eq_false (by omega)
          have hw : IntKind.i64.wrap (F : Int) = (F : Int) := IntWalk.i64_in _ (by omega)
          go_wp2_with fail
          go_ret2
          exact ⟨rfl, HB1.out⟩

theorem rsg_size : (Tryz.prog.info? 41).map (·.size) = some 4 := by kernel_rfl
theorem rresults_seg (tmps : Array Value) (w : World) (p : Nat) (f : Int) (v : Value) (g : Int) (b : Bool) (u : Value) (hp : tmps.getD 2 undef = .pointer (some ⟨p, 0, none⟩)) (hg : w.heap[p]? = some (.cells (sgC f v g b) 41)) (hu : tmps.getD 3 undef = u) :
    (results Tryz.f25 tmps).run Tryz.prog w = .ok (.tuple #[.agg (sgC f v g b), u]) w := by
  have hp' : tmps[2]?.getD undef = .pointer (some ⟨p, 0, none⟩) := by simpa using hp
  subst hu
  simp [results, hp', asAddr, run_loadVar_row w p 41 41 (sgC f v g b) (0, 0) _ hg Tryz.underlying41 rfl (by exact rsg_size)]
theorem rsg_cells {w : World} {p : Nat} {f g : Int} {v : Value} {b : Bool} (h : w.heap[p]? = some (.cells (sgC f v g b) 41)) :
    w.cell? ⟨p, 0, none⟩ = some (.int .i64 f) ∧ w.cell? ⟨p, 1, none⟩ = some v ∧ w.cell? ⟨p, 2, none⟩ = some (.int .i64 g) ∧ w.cell? ⟨p, 3, none⟩ = some (.bool b) ∧ ∀ j, w.frozen? ⟨p, j, none⟩ = false :=
  ⟨by rw [cell_of_row _ _ _ _ _ _ h]; rfl, by rw [cell_of_row _ _ _ _ _ _ h]; rfl, by rw [cell_of_row _ _ _ _ _ _ h]; rfl, by rw [cell_of_row _ _ _ _ _ _ h]; rfl, fun j => frozen_of_row _ _ _ _ _ h⟩
theorem rsg_stored {w : World} {p : Nat} {f0 g0 f g : Int} {v0 v : Value} {b0 b : Bool} (h : w.heap[p]? = some (.cells (sgC f0 v0 g0 b0) 41)) :
    ((((w.setCell ⟨p, 0, none⟩ (.int .i64 f)).setCell ⟨p, 1, none⟩ v).setCell ⟨p, 2, none⟩ (.int .i64 g)).setCell ⟨p, 3, none⟩ (.bool b)).heap[p]? = some (.cells (sgC f v g b) 41) := by
  have k0 := heap_setCell_same _ _ 0 _ _ (.int .i64 f) h
  have k1 := heap_setCell_same _ _ 1 _ _ v k0
  have k2 := heap_setCell_same _ _ 2 _ _ (.int .i64 g) k1
  exact heap_setCell_same _ _ 3 _ _ (.bool b) k2
set_option maxHeartbeats 1000000 in
theorem rsscan_bad (s : ByteArray) (w : World) (hs : s.size ≤ 1000000) (h : hdE s.data.toList ≠ 0) :
    Calls Tryz.prog 25 #[.string s] w fun e w' => e = .returned (.tuple #[.agg sgZero, .int .i64 (hdE s.data.toList)]) ∧ Below w.heap.size w w' := by
  have hf := fun w => rfirst_any s w hs
  unfold hdV at hf
  simp only [if_neg h] at hf
  obtain ⟨E, hE⟩ : ∃ E, hdE s.data.toList = E := ⟨_, rfl⟩
  rw [hE] at hf h ⊢
  have d1 : ((E : Int) != 0) = true := by rw [bne_iff_ne]; omega
  have HF := Lib.hid hf
  clear hf hE h
  go_enter Tryz.func25, Tryz.ntmps25
  go_wp2_with fail
  refine (HF.out _).mono ?_
  rintro e w1 ⟨rfl, hb1⟩
  have hblk : w1.heap[w.heap.size]? = some (.cells sgZero 41) := (hb1.block _ (by simp)).trans (heap_alloc_new _ _)
  obtain ⟨z0, z1, z2, z3, zf⟩ := rsg_cells hblk
  have f0 := zf 0
  have f1 := zf 1
  have f2 := zf 2
  have f3 := zf 3
  have HB := Lib.hid hblk
  have HW := Lib.hid (((Below.refl _ _).alloc (Nat.le_refl _) (.cells sgZero 41)).trans (hb1.mono (by simp)) : Below w.heap.size w w1)
  clear hblk zf hb1
  go_wp2_with fail
  refine bodyPost_ret_by (rresults_seg _ _ w.heap.size 0 (.slice none 0 0) 0 false _ rfl (rsg_stored HB.out) rfl) rfl ⟨rfl, sg_below HW.out _ _ _ _⟩

set_option maxHeartbeats 1000000 in
theorem rsscan_ok (s : ByteArray) (w : World) (hs : s.size ≤ 1000000) (h : hdE s.data.toList = 0) :
    Calls Tryz.prog 25 #[.string s] w fun e w' => ∃ oa cap, e = .returned (.tuple #[.agg (sgC (hdF s.data.toList) (.slice oa (scanL s.data.toList 16 (hdF s.data.toList)).length cap) (scanG s.data.toList 16 (hdF s.data.toList)) (decide (scanG s.data.toList 16 (hdF s.data.toList) = s.size))), .int .i64 0]) ∧
      w'.ownsRow w.heap.size 95 3 (.slice oa (scanL s.data.toList 16 (hdF s.data.toList)).length cap) (scanL s.data.toList 16 (hdF s.data.toList)).length (frRow s (scanL s.data.toList 16 (hdF s.data.toList))) ∧ Below w.heap.size w w' := by
  have hf := fun w => rfirst_any s w hs
  unfold hdV at hf
  simp only [if_pos h] at hf
  have hfb := (hd_ok h).2.2.2
  have hsc := fun w => rscan_any s 16 (hdF s.data.toList) w hs (wf_i64 (by omega) (by omega))
  generalize hdF s.data.toList = F at hf hsc hfb ⊢
  generalize frRow s (scanL s.data.toList 16 F) = X at hsc ⊢
  generalize (scanL s.data.toList 16 F).length = n at hsc ⊢
  generalize scanG s.data.toList 16 F = G at hsc ⊢
  have HF := Lib.hid hf
  have HS := Lib.hid hsc
  clear hf hsc h
  go_enter Tryz.func25, Tryz.ntmps25
  go_wp2_with fail
  refine (HF.out _).mono ?_
  rintro e w1 ⟨rfl, hb1⟩
  go_wp2_with fail
  refine (HS.out _).mono ?_
  rintro e w2 ⟨v, rfl, ho, hb2⟩
  obtain ⟨oa, cap, rfl⟩ : ∃ oa cap, v = .slice oa n cap := by
    rcases ho.2 with ⟨rfl, rfl⟩ | ⟨g, c, cur, rfl, _⟩
    · exact ⟨none, 0, rfl⟩
    · exact ⟨_, _, rfl⟩
  have hb := bel_trans hb1 hb2
  have hblk : w2.heap[w.heap.size]? = some (.cells sgZero 41) := (hb.block _ (by simp)).trans (heap_alloc_new _ _)
  obtain ⟨z0, z1, z2, z3, zf⟩ := rsg_cells hblk
  have f0 := zf 0
  have f1 := zf 1
  have f2 := zf 2
  have f3 := zf 3
  have HB := Lib.hid hblk
  have hz1 : w.heap.size + 1 ≤ w1.heap.size := by have := hb1.size; simpa using this
  have HW := Lib.hid (((Below.refl _ _).alloc (Nat.le_refl _) (.cells sgZero 41)).trans (hb.mono (by simp)) : Below w.heap.size w w2)
  have HO := Lib.hid (show w2.ownsRow (w.heap.size + 1) 95 3 (.slice oa n cap) n X from ⟨ho.1, ho.2.imp id (fun ⟨g, c, cur, e1, e2, e3⟩ => ⟨g, c, cur, e1, by omega, e3⟩)⟩)
  clear hblk zf hb1 hb2 hb ho hz1
  go_wp2_with fail
  refine bodyPost_ret_by (rresults_seg _ _ w.heap.size F _ G _ (.int .i64 0) rfl (rsg_stored HB.out) rfl) rfl ⟨oa, cap, by rw [show ((G : Int) == (s.size : Int)) = decide (G = s.size) by rw [Bool.eq_iff_iff, beq_iff_eq, decide_eq_true_iff]; omega], ?_, sg_below HW.out _ _ _ _⟩
  refine ownsRow_mono (B' := 1) ?_
  exact ownsRow_setCell_below (ownsRow_setCell_below (ownsRow_setCell_below (ownsRow_setCell_below HO.out (a := ⟨w.heap.size, 0, none⟩) (Nat.lt_succ_self _) _) (a := ⟨w.heap.size, 1, none⟩) (Nat.lt_succ_self _) _) (a := ⟨w.heap.size, 2, none⟩) (Nat.lt_succ_self _) _) (a := ⟨w.heap.size, 3, none⟩) (Nat.lt_succ_self _) _


end Go.Proofs.YtaonjbkkgeiniaaGreatDoor
