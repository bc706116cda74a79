/- Walks over package crc: Forge. -/
import Derived.Test.YtdcfefhlhphdiaaCrcBb
import Derived.Test.YtdcfefhlhphdiaaCrcSealed2W
import Derived.Deep.RegionHeld3
import Derived.Deep.MidRow
import Derived.Deep.WholeRow
import Derived.Deep.DeepCutAuto
namespace Go.Proofs.Ytdcfefhlhphdiaa
open Go.RowKit

set_option maxHeartbeats 400000 in
theorem forge_neg (s : ByteArray) (a : Int) (want : BitVec 32) (w : World) (h : a < 0) :
    Calls Try.prog 19 #[.string s, .int .i64 a, .int .u32 want.toNat] w
      fun e w' => e = .returned (.tuple #[.string (bs []), .int .i64 8]) ∧ Below w.heap.size w w' := by
  go_enter Try.func19, Try.ntmps19
  go_wp2_with fail
  go_ret2
  exact ⟨rfl, Below.refl _ _⟩

set_option maxHeartbeats 400000 in
theorem forge_far (s : ByteArray) (a : Int) (want : BitVec 32) (w : World) (hs : s.size ≤ 1000000000) (h0 : 0 ≤ a) (h : (s.size : Int) - 4 < a) :
    Calls Try.prog 19 #[.string s, .int .i64 a, .int .u32 want.toNat] w
      fun e w' => e = .returned (.tuple #[.string (bs []), .int .i64 8]) ∧ Below w.heap.size w w' := by
  go_enter Try.func19, Try.ntmps19
  go_wp2_with fail
  go_ret2
  exact ⟨rfl, Below.refl _ _⟩

def forgeW (l : List UInt8) (a : Nat) (want : BitVec 32) : BitVec 32 :=
  xr (run (nt 0#32) (l.take a)) (bk (bk (nt want) (l.drop (a + 4))) [0, 0, 0, 0])
def forgeL (l : List UInt8) (a : Nat) (want : BitVec 32) : List UInt8 := l.take a ++ four (forgeW l a want) ++ l.drop (a + 4)

/-- the table lies in block b -/
def tabAt (w : World) (b : Nat) : Prop := w.heap[b]? = some (.cells (u32s 256 tab) 45)
def tabL : List Value := (u32s 256 tab).toList
theorem length_tabL : tabL.length = 256 := by unfold tabL; simp [size_u32s]
theorem tabL_arr : tabL.toArray = u32s 256 tab := by unfold tabL; simp
theorem back_strT (c d : BitVec 32) (n : Int) (s : ByteArray) (w : World) (hn : n = (c.toNat : Int)) (hs : s.size ≤ 1000000000) (hd : bk c s.data.toList = d) :
    Calls Try.prog 31 #[.agg tabL.toArray, .int .u32 n, .string s] w
      fun e w' => e = .returned (.int .u32 d.toNat) ∧ Below w.heap.size w w' := by
  subst hn; subst hd
  rw [tabL_arr]; exact back_str c s w hs
theorem run_strT (c d : BitVec 32) (n : Int) (s : ByteArray) (w : World) (hn : n = (c.toNat : Int)) (hs : s.size ≤ 1000000000) (hd : run c s.data.toList = d) :
    Calls Try.prog 32 #[.agg tabL.toArray, .int .u32 n, .string s] w
      fun e w' => e = .returned (.int .u32 d.toNat) ∧ Below w.heap.size w w' := by
  subst hn; subst hd
  rw [tabL_arr]; exact run_str c s w (by unfold maxLen; omega)
theorem back_bytesT (c : BitVec 32) (b n cap : Nat) (l : List UInt8) (w : World) (hn : l.length = n) (hs : n ≤ 1000000000) (hby : bytesAt w b l) :
    Calls Try.prog 33 #[.agg tabL.toArray, .int .u32 c.toNat, .slice (some ⟨b, 0, none⟩) n cap] w
      fun e w' => e = .returned (.int .u32 (bk c l).toNat) ∧ Below w.heap.size w w' := by
  rw [tabL_arr]; exact back_bytes c b n cap l w hn hs hby
theorem back_zeros (c : BitVec 32) (b : Nat) (w : World) (hby : bytesAt w b [0, 0, 0, 0]) :
    Calls Try.prog 33 #[.agg tabL.toArray, .int .u32 c.toNat, .slice (some ⟨b, 0, none⟩) 4 4] w
      fun e w' => e = .returned (.int .u32 (bk c [0, 0, 0, 0]).toNat) ∧ Below w.heap.size w w' :=
  back_bytesT c b 4 4 [0, 0, 0, 0] w rfl (by decide) hby
theorem tabAt.range {w : World} {b : Nat} (h : tabAt w b) : w.rangeAt b 0 tabL := by
  intro j v hv
  have hj : j < 256 := by have := (List.getElem?_eq_some_iff.1 hv).1; rwa [length_tabL] at this
  rw [Nat.zero_add, cell_of_row _ _ _ _ _ _ h, ← hv]
  unfold tabL; simp
theorem tabAt.keep {w w' : World} {b : Nat} (h : tabAt w b) (hb : Below w.heap.size w w') : tabAt w' b := by
  have hlt : b < w.heap.size := (Array.getElem?_eq_some_iff.1 h).1
  unfold tabAt; rw [hb.block b hlt]; exact h
theorem tabAt.both {w : World} {b : Nat} (h : tabAt w b) : w.rangeAt b 0 tabL ∧ tabAt w b := ⟨h.range, h⟩

theorem conv_bts_drew (l : List UInt8) (n cap : Nat) (hn : l.length = n) (w : World) :
    (convert 23 9 (.slice (some ⟨w.heap.size, 0, none⟩) n cap)).run Try.prog (w.alloc (.cells (bts l) 5)).drew = .ok (.string ⟨l.toArray⟩) (w.alloc (.cells (bts l) 5)).drew :=
  conv_bts l n cap hn w.drew
theorem make_zeros (w : World) : (Instr.makeSlice 23 (.int .i64 4) (.int .i64 4)).run Try.prog w = .ok (.slice (some ⟨w.heap.size, 0, none⟩) 4 4) (w.alloc (.cells (bts [0, 0, 0, 0]) 5)) := by kernel_rfl
theorem zeros_new (w : World) : bytesAt (w.alloc (.cells (bts [0, 0, 0, 0]) 5)) w.heap.size [0, 0, 0, 0] := by
  refine ⟨_, 0, 0, heap_alloc_new _ _, Or.inr rfl, ?_⟩
  intro j hj
  rw [get_bts _ j hj, nth_eq _ _ hj]
theorem zeros_kept {w w' : World} (h : Below (w.alloc (.cells (bts [0, 0, 0, 0]) 5)).heap.size (w.alloc (.cells (bts [0, 0, 0, 0]) 5)) w') : bytesAt w' w.heap.size [0, 0, 0, 0] :=
  (zeros_new w).keep h (by simp)

theorem forge_str (s : ByteArray) (a : Nat) (want behind front : BitVec 32) (h1 : bk (nt want) (s.extract (a + 4) s.size).data.toList = behind) (h2 : run (nt 0#32) (s.extract 0 a).data.toList = front) :
    bs (forgeL s.data.toList a want) = s.extract 0 a ++ ⟨(four (xr front (bk behind [0, 0, 0, 0]))).toArray⟩ ++ s.extract (a + 4) s.size := by
  have e1 : (s.extract 0 a).data.toList = s.data.toList.take a := by simp
  have e2 : (s.extract (a + 4) s.size).data.toList = s.data.toList.drop (a + 4) := by
    simp
    exact List.take_of_length_le (by simp)
  rw [e1] at h2
  rw [e2] at h1
  apply ba_ext
  rw [bs_data, data_app, data_app, e1, e2]
  unfold forgeL forgeW
  rw [h1, h2]

set_option maxRecDepth 100000 in
set_option maxHeartbeats 1000000 in
theorem forge_ok (s : ByteArray) (a : Nat) (want : BitVec 32) (w : World) (hs : s.size ≤ 1000000000) (h : a + 4 ≤ s.size) :
    Calls Try.prog 19 #[.string s, .int .i64 a, .int .u32 want.toNat] w
      fun e w' => e = .returned (.tuple #[.string (bs (forgeL s.data.toList a want)), .int .i64 0]) ∧ Below w.heap.size w w' := by
  have hz := zero_tab
  go_enter Try.func19, Try.ntmps19
  go_wp2_with fail
  with_reducible refine (table_any _).mono ?_
  rintro e w1 ⟨rfl, hb1⟩
  have h0 := heap_alloc_new w1 (.cells (u32s 256 zf) 45)
  have H0 := Lib.hid h0
  clear h0
  go_wp2_with (refine wpList_store_row rfl 45 _ _ rfl w1.heap.size _ rfl rfl 45 _ H0.out (by rw [size_u32s]; exact tab_size) (by rw [size_u32s, size_u32s]) (one_u32s _ _) ?_)
  rw [World.setRow_alloc_new]
  clear hz H0
  have ht : tabAt (w1.alloc (.cells (u32s 256 tab) 45)) w1.heap.size := heap_alloc_new _ _
  have hbl : Below w.heap.size w (w1.alloc (.cells (u32s 256 tab) 45)) := bel_alloc hb1 _
  generalize w1.alloc (.cells (u32s 256 tab) 45) = w2 at *
  generalize w1.heap.size = B at *
  clear hb1 w1
  have hu := Try.underlying45
  have hi : (Try.prog.info? 45).map (·.size) = some tabL.length := by rw [length_tabL]; exact tab_size
  have e1 : (s.extract (a + 4) s.size).size ≤ 1000000000 := by simp; omega
  have E1 := Lib.hid e1
  have NW := Lib.hid (show bits .xor .u32 (if IntKind.u32.signed = true then -1 else IntKind.u32.max) (want.toNat : Int) = ((nt want).toNat : Int) from g_not want)
  clear e1
  obtain ⟨behind, hbehind⟩ : ∃ c, bk (nt want) (s.extract (a + 4) s.size).data.toList = c := ⟨_, rfl⟩
  obtain ⟨front, hfront⟩ : ∃ c, run (nt 0#32) (s.extract 0 a).data.toList = c := ⟨_, rfl⟩
  have HBE := Lib.hid hbehind
  have HRU := Lib.hid hfront
  clear hbehind hfront
  have f1 : (0 : Int) ≤ (a : Int) + 4 := by omega
  have f2 : (a : Int) + 4 ≤ (s.size : Int) := by omega
  have f3 : ((a : Int) + 4).toNat = a + 4 := by omega
  have f4 : IntKind.i64.wrap ((a : Int) + 4) = (a : Int) + 4 := IntWalk.i64_in _ (by omega)
  go_wp2_with fail
  go_region_held3 (fun w' => w'.rangeAt B 0 tabL ∧ tabAt w' B)
    (first | exact tabAt.both (w := w2.drew) ht | exact tabAt.both (tabAt.keep (And.right (by assumption)) (by assumption)))
    (first | (go_at_call 31; (with_reducible refine (back_strT (nt want) _ _ _ _ NW.out E1.out HBE.out).mono ?_); rintro e w3 ⟨rfl, hb3⟩))
  have ht3 : tabAt w3 B := And.right (by assumption)
  have hbl3 : Below w.heap.size w w3 := bel_trans (bel_drew hbl) hb3
  have e2 : (s.extract 0 a).size ≤ 1000000000 := by simp; omega
  have E2 := Lib.hid e2
  have NM := Lib.hid (show (4294967295 : Int) = ((nt 0#32).toNat : Int) by decide)
  have hmk := make_zeros
  have g1 : (0 : Int) ≤ (a : Int) := by omega
  have g2 : (a : Int) ≤ (s.size : Int) := by omega
  clear e2 hb3 hbl ht
  go_wp2_with fail
  go_cut [10] (fun x wx => x = .int .u32 ((xr front (bk behind [0, 0, 0, 0])).toNat : Int) ∧ Below w.heap.size w wx)
  case rest =>
    obtain ⟨rfl, hblc⟩ := hcut
    have hv := conv_bts_drew (four (xr front (bk behind [0, 0, 0, 0]))) 4 4 rfl
    go_wp2_with fail
    go_region_with (go_at_call 30; refine (bytes_any _ _).mono ?_; rintro e w6 ⟨rfl, rfl⟩)
    go_wp2_with fail
    go_ret2
    refine ⟨?_, bel_trans hblc (bel_drew (bel_alloc (Below.refl _ _) _))⟩
    rw [forge_str s a want behind front HBE.out HRU.out]
    rfl
  refine wp_region_noPanic ?_
  refine wp_region_held_drew (S := fun w' => tabAt w' B) (by kernel_rfl) ht3 (fun hHeld => ?_)
  refine wpAnyH_take (i := 0) (v := .agg tabL.toArray) rfl (by kernel_rfl) (by kernel_rfl) (by kernel_rfl) (fun _ _ _ h => h) (yieldsIf_load_mid (by rfl) _ _ rfl B 0 rfl tabL _ (fun w' hS => tabAt.range hS) hu rfl hi) hHeld ?_
  refine wpAnyH_take (i := 1) (v := .string s) rfl (by kernel_rfl) (by kernel_rfl) (by kernel_rfl) (fun _ _ _ h => h) (Or.inl ⟨by rfl, fun w' _ => by go_simp⟩) hHeld ?_
  refine wpAnyH_take (i := 2) (v := .int .i64 (a : Int)) rfl (by kernel_rfl) (by kernel_rfl) (by kernel_rfl) (fun _ _ _ h => h) (Or.inl ⟨by rfl, fun w' _ => by go_simp⟩) hHeld ?_
  refine wpAnyH_take (i := 3) (v := .string (s.extract 0 a)) rfl (by kernel_rfl) (by kernel_rfl) (by kernel_rfl) (fun _ _ _ h => h) (Or.inl ⟨by rfl, fun w' _ => by go_simp⟩) hHeld ?_
  refine wpAnyH_take (i := 5) (v := .agg tabL.toArray) rfl (by kernel_rfl) (by kernel_rfl) (by kernel_rfl) (fun _ _ _ h => h) (yieldsIf_load_mid (by rfl) _ _ rfl B 0 rfl tabL _ (fun w' hS => tabAt.range hS) hu rfl hi) hHeld ?_
  refine wpAnyH_take (i := 6) (v := .int .u32 (behind.toNat : Int)) rfl (by kernel_rfl) (by kernel_rfl) (by kernel_rfl) (fun _ _ _ h => h) (Or.inl ⟨by rfl, fun w' _ => by go_simp⟩) hHeld ?_
  refine wpAnyH_ready (rs := [4, 7]) (by kernel_rfl) (by simp) ?_
  refine AllReadyH.cons rfl (fun K hK => ?_) (AllReadyH.cons rfl (fun K hK => ?_) AllReadyH.nil)
  · clear hu hi hmk
    go_simp
    go_at_call 32
    with_reducible refine (run_strT _ _ _ _ _ NM.out E2.out HRU.out).mono ?_
    rintro e w4 ⟨rfl, hw4⟩
    refine hK.out _ _ (tabAt.keep hHeld hw4) (fun hHeld => ?_)
    clear hK K
    have hmk := make_zeros
    refine wpAnyH_ready (rs := [7]) (by kernel_rfl) (by simp) ?_
    refine AllReadyH.cons rfl (fun K hK => ?_) AllReadyH.nil
    go_simp
    refine hK.out _ _ (tabAt.keep hHeld (bel_alloc (Below.refl _ _) _)) (fun hHeld => ?_)
    clear hK K
    clear hmk
    refine wpAnyH_ready (rs := [8]) (by kernel_rfl) (by simp) ?_
    refine AllReadyH.cons rfl (fun K hK => ?_) AllReadyH.nil
    go_simp
    go_at_call 33
    with_reducible refine (back_zeros _ w4.heap.size _ (zeros_new w4)).mono ?_
    rintro e w5 ⟨rfl, hw5⟩
    refine hK.out _ _ (tabAt.keep hHeld hw5) (fun hHeld => ?_)
    clear hK K
    refine wpAnyH_take (i := 9) (v := .int .u32 ((xr front (bk behind [0, 0, 0, 0])).toNat : Int)) rfl (by kernel_rfl) (by kernel_rfl) (by kernel_rfl) (fun _ _ _ h => h) (Or.inl ⟨by rfl, fun w' _ => by go_simp⟩) hHeld ?_
    refine wpAnyH_take (i := 10) (v := .int .u32 ((xr front (bk behind [0, 0, 0, 0])).toNat : Int)) rfl (by kernel_rfl) (by kernel_rfl) (by kernel_rfl) (fun _ _ _ h => h) (Or.inl ⟨by rfl, fun w' _ => by go_simp⟩) hHeld ?_
    refine wpAnyH_done (by kernel_rfl) (NoPanic.normal ?_) _
    go_simp
    go_wp2_with fail
    go_meet
    exact ⟨rfl, bel_trans (bel_alloc (bel_trans (bel_drew hbl3) hw4) _) hw5⟩
  · clear hu hi
    go_simp
    refine hK.out _ _ (tabAt.keep hHeld (bel_alloc (Below.refl _ _) _)) (fun hHeld => ?_)
    clear hK K
    clear hmk
    refine wpAnyH_ready (rs := [4]) (by kernel_rfl) (by simp) ?_
    refine AllReadyH.cons rfl (fun K hK => ?_) AllReadyH.nil
    go_simp
    go_at_call 32
    with_reducible refine (run_strT _ _ _ _ _ NM.out E2.out HRU.out).mono ?_
    rintro e w4 ⟨rfl, hw4⟩
    refine hK.out _ _ (tabAt.keep hHeld hw4) (fun hHeld => ?_)
    clear hK K
    refine wpAnyH_ready (rs := [8]) (by kernel_rfl) (by simp) ?_
    refine AllReadyH.cons rfl (fun K hK => ?_) AllReadyH.nil
    go_simp
    go_at_call 33
    with_reducible refine (back_zeros _ w3.heap.size _ (zeros_kept (w := w3) (bel_undrew hw4))).mono ?_
    rintro e w5 ⟨rfl, hw5⟩
    refine hK.out _ _ (tabAt.keep hHeld hw5) (fun hHeld => ?_)
    clear hK K
    refine wpAnyH_take (i := 9) (v := .int .u32 ((xr front (bk behind [0, 0, 0, 0])).toNat : Int)) rfl (by kernel_rfl) (by kernel_rfl) (by kernel_rfl) (fun _ _ _ h => h) (Or.inl ⟨by rfl, fun w' _ => by go_simp⟩) hHeld ?_
    refine wpAnyH_take (i := 10) (v := .int .u32 ((xr front (bk behind [0, 0, 0, 0])).toNat : Int)) rfl (by kernel_rfl) (by kernel_rfl) (by kernel_rfl) (fun _ _ _ h => h) (Or.inl ⟨by rfl, fun w' _ => by go_simp⟩) hHeld ?_
    refine wpAnyH_done (by kernel_rfl) (NoPanic.normal ?_) _
    go_simp
    go_wp2_with fail
    go_meet
    exact ⟨rfl, bel_trans (bel_trans (bel_drew (bel_alloc hbl3 _)) hw4) hw5⟩

end Go.Proofs.Ytdcfefhlhphdiaa
