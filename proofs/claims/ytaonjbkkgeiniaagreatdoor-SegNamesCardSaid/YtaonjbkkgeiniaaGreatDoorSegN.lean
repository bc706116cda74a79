/- seg.Join. -/
import Derived.Test.YtaonjbkkgeiniaaGreatDoorSegK
namespace Go.Proofs.YtaonjbkkgeiniaaGreatDoor
open Go.RowKit Go.Shelf
attribute [local go_sem] Oper.semAt_some

theorem results_jn (tmps : Array Value) (w : World) (g : Nat) (p : ByteArray) (e : Int) (hp : tmps.getD 4 undef = .pointer (some ⟨g, 0, none⟩)) (hq : tmps.getD 5 undef = .pointer (some ⟨g + 1, 0, none⟩))
    (hu : w.cell? ⟨g, 0, none⟩ = some (.string p)) (hv : w.cell? ⟨g + 1, 0, none⟩ = some (.int .i64 e)) :
    (results Tryz.f16 tmps).run Tryz.prog w = .ok (.tuple #[.string p, .int .i64 e]) w := by
  have hp' : tmps[4]?.getD undef = .pointer (some ⟨g, 0, none⟩) := by simpa using hp
  have hq' : tmps[5]?.getD undef = .pointer (some ⟨g + 1, 0, none⟩) := by simpa using hq
  simp [results, hp', hq', asAddr, loadVar, go_sem, hu, hv]

/-- two results' cells, once written -/
theorem two_set (W w : World) (h : Nat) (x y x' y' : Value) (t u : TypeId) (r0 : W.heap[h]? = some (.cells #[x] t)) (r1 : W.heap[h + 1]? = some (.cells #[y] u)) (hB : Below h w W) :
    ((W.setCell ⟨h, 0, none⟩ x').setCell ⟨h + 1, 0, none⟩ y').heap[h]? = some (.cells #[x'] t) ∧ ((W.setCell ⟨h, 0, none⟩ x').setCell ⟨h + 1, 0, none⟩ y').heap[h + 1]? = some (.cells #[y'] u) ∧ Below h w ((W.setCell ⟨h, 0, none⟩ x').setCell ⟨h + 1, 0, none⟩ y') := by
  have n0 := heap_setCell_same W h 0 _ _ x' r0
  have n1 : (W.setCell ⟨h, 0, none⟩ x').heap[h + 1]? = _ := (heap_setCell_ne _ _ _ (by show h + 1 ≠ h; omega)).trans r1
  have n1' := heap_setCell_same _ (h + 1) 0 _ _ y' n1
  have n0' := (heap_setCell_ne (W.setCell ⟨h, 0, none⟩ x') ⟨h + 1, 0, none⟩ y' (k := h) (by show h ≠ h + 1; omega)).trans n0
  exact ⟨n0', n1', (hB.setCell (p := ⟨h, 0, none⟩) (Nat.le_refl _) _).setCell (p := ⟨h + 1, 0, none⟩) (by show h ≤ h + 1; omega) _⟩

theorem strs_keep {w w' : World} {oa : Option Addr} {len cap : Nat} {z : List ByteArray} (h : StrsIn w oa len cap z) (hb : Below w.heap.size w w') : StrsIn w' oa len cap z :=
  ⟨h.1, h.2.1, h.2.2.1, h.2.2.2.1, h.2.2.2.2.imp id (fun ⟨b, off, e, hb', hc⟩ => ⟨b, off, e, Nat.lt_of_lt_of_le hb' hb.size, fun j hj => (hb.cell (p := ⟨b, off + j, none⟩) hb').trans (hc j hj)⟩)⟩
theorem two_new (w : World) (x y : Value) (t u : TypeId) : ((w.alloc (.cells #[x] t)).alloc (.cells #[y] u)).heap[w.heap.size]? = some (.cells #[x] t) ∧ ((w.alloc (.cells #[x] t)).alloc (.cells #[y] u)).heap[w.heap.size + 1]? = some (.cells #[y] u) ∧ Below w.heap.size w ((w.alloc (.cells #[x] t)).alloc (.cells #[y] u)) :=
  ⟨(heap_alloc_old _ _ _ (by simp)).trans (heap_alloc_new _ _), heap_alloc2_new _ _ _, ((Below.refl _ _).alloc (Nat.le_refl _) _).alloc (by simp) _⟩
def jnI (h : Nat) (b : Nat) (w : World) (_ : Unit) (W : World) : Prop :=
  1048576 < b ∧ W.heap[h]? = some (.cells #[.string ⟨#[]⟩] 9) ∧ W.heap[h + 1]? = some (.cells #[.int .i64 0] 26) ∧ Below h w W
def jnX (h : Nat) (s : ByteArray) (w : World) (c : Code) (_ : Unit) (W : World) : Prop :=
  c = .ret ∧ s.size ≤ 1048576 ∧ W.heap[h]? = some (.cells #[.string s] 9) ∧ W.heap[h + 1]? = some (.cells #[.int .i64 0] 26) ∧ Below h w W
theorem jnI_own {h b B : Nat} {w : World} (hB : h ≤ B) (hw : h ≤ w.heap.size) : OwnFrom B (jnI h b w) := by
  rintro s A C row ⟨h2, h3, h4, h6⟩ hg hr
  exact ⟨h2, cells_own h3 hg hr, cells_own h4 hg hr, ownFrom_below (β := Unit) hw hB () A C row h6 hg hr⟩
theorem jnX_own {h B : Nat} {s : ByteArray} {w : World} (hB : h ≤ B) (hw : h ≤ w.heap.size) (c : Code) : OwnFrom B (jnX h s w c) := by
  rintro _ A C row ⟨h1, h2, h3, h4, h6⟩ hg hr
  exact ⟨h1, h2, cells_own h3 hg hr, cells_own h4 hg hr, ownFrom_below (β := Unit) hw hB () A C row h6 hg hr⟩

set_option maxRecDepth 100000 in
set_option maxHeartbeats 2000000 in
theorem join_bad1 {len cap : Nat} {oa : Option Addr} (f : Int) (w : World) (hf : ¬ (0 ≤ f ∧ f ≤ 1048576)) :
    CallsIn Fence.wide 3 Tryz.prog 16 #[.int .i64 f, .slice oa len cap] w fun e w' => e = .returned (.tuple #[.string ⟨#[]⟩, .int .i64 1]) ∧ Below w.heap.size w w' := by
  have d0 : decide (0 ≤ f ∧ f ≤ 1048576) = false := decide_eq_false hf
  refine callsIn_of_wp_marks Tryz.func16 rfl trivial ?_
  simp only [Tryz.ntmps16, List.size_toArray, List.length_cons, List.length_nil, Nat.reduceAdd, Nat.reduceSub, Array.replicate_succ, Array.replicate_zero, List.push_toArray, List.append_toArray, List.nil_append, List.cons_append]
  gi_wp2
  refine ⟨trivial, (callsIn_wide.2 (number_any' f _)).mono ?_⟩
  rintro e' w1 ⟨rfl, rfl⟩
  gi_wp2
  obtain ⟨r0, r1, hB⟩ := two_new w (.string ⟨#[]⟩) (.int .i64 1) 9 26
  exact ⟨_, results_jn _ _ w.heap.size _ _ rfl rfl (by rw [cell_of_row _ _ _ _ _ _ r0]; rfl) (by rw [cell_of_row _ _ _ _ _ _ r1]; rfl), rfl, hB⟩

set_option maxRecDepth 100000 in
set_option maxHeartbeats 2000000 in
theorem join_bad2 {len cap : Nat} {oa : Option Addr} (f : Int) (z : List ByteArray) (w : World) (hf : 0 ≤ f ∧ f ≤ 1048576) (h : StrsIn w oa len cap z) (he : wrE f z ≠ 0) :
    CallsIn Fence.wide 3 Tryz.prog 16 #[.int .i64 f, .slice oa len cap] w fun e w' => e = .returned (.tuple #[.string ⟨#[]⟩, .int .i64 (wrE f z)]) ∧ Below w.heap.size w w' := by
  have d0 : decide (0 ≤ f ∧ f ≤ 1048576) = true := decide_eq_true hf
  have d1 : ((wrE f z : Int) != 0) = true := by rw [bne_iff_ne]; omega
  have H := Lib.hid (fun w' (h' : StrsIn w' oa len cap z) => wrong_any (cap := cap) f z w' h' hf.1 hf.2)
  have HS := Lib.hid h
  clear h
  refine callsIn_of_wp_marks Tryz.func16 rfl trivial ?_
  simp only [Tryz.ntmps16, List.size_toArray, List.length_cons, List.length_nil, Nat.reduceAdd, Nat.reduceSub, Array.replicate_succ, Array.replicate_zero, List.push_toArray, List.append_toArray, List.nil_append, List.cons_append]
  gi_wp2
  refine ⟨trivial, (callsIn_wide.2 (number_any' f _)).mono ?_⟩
  rintro e' w1 ⟨rfl, rfl⟩
  gi_wp2
  refine ⟨trivial, (callsIn_wide.2 (H.out _ (strs_keep HS.out (((Below.refl _ _).alloc (Nat.le_refl _) _).alloc (by simp) _)))).mono ?_⟩
  rintro e' w1 ⟨rfl, rfl⟩
  gi_wp2
  obtain ⟨r0, r1, hB⟩ := two_new w (.string ⟨#[]⟩) (.int .i64 (wrE f z)) 9 26
  exact ⟨_, results_jn _ _ w.heap.size _ _ rfl rfl (by rw [cell_of_row _ _ _ _ _ _ r0]; rfl) (by rw [cell_of_row _ _ _ _ _ _ r1]; rfl), rfl, hB⟩

set_option maxRecDepth 100000 in
set_option maxHeartbeats 2000000 in
theorem join_ok {len cap : Nat} {oa : Option Addr} (f : Nat) (z : List ByteArray) (w : World) (hf : f ≤ 1048576) (h : StrsIn w oa len cap z) (he : wrE f z = 0) :
    CallsIn Fence.wide 3 Tryz.prog 16 #[.int .i64 f, .slice oa len cap] w fun e w' => e = .returned (.tuple #[.string (if (segB f z).size ≤ 1048576 then segB f z else ⟨#[]⟩), .int .i64 (if (segB f z).size ≤ 1048576 then 0 else 40)]) ∧ Below w.heap.size w w' := by
  have d0 : decide ((0 : Int) ≤ f ∧ (f : Int) ≤ 1048576) = true := decide_eq_true (by omega)
  have H := Lib.hid (fun w' (h' : StrsIn w' oa len cap z) => wrong_any (cap := cap) f z w' h' (by omega) (by omega))
  rw [he] at H
  have hw : (∀ p ∈ z, payOk p.data.toList) ∧ f + z.length ≤ 1048576 := by
    unfold wrE at he
    by_cases h1 : ∃ p ∈ z, ¬ payOk p.data.toList
    · rw [if_pos h1] at he; cases he
    rw [if_neg h1] at he
    refine ⟨fun p hp => Decidable.byContradiction fun hn => h1 ⟨p, hp, hn⟩, ?_⟩
    by_cases h2 : 1048576 < (f : Int) + z.length
    · rw [if_pos h2] at he; cases he
    · omega
  obtain ⟨hp, hfl⟩ := hw
  rw [h.1] at hfl
  clear he
  have d1 : decide ((f : Int) ≤ 1048576) = true := decide_eq_true (by omega)
  obtain ⟨P, E, hPE, hP, hE⟩ : ∃ (P : ByteArray) (E : Int), (((segB f z).size ≤ 1048576 ∧ P = segB f z ∧ E = 0) ∨ (1048576 < (segB f z).size ∧ P = ⟨#[]⟩ ∧ E = 40)) ∧ (if (segB f z).size ≤ 1048576 then segB f z else ⟨#[]⟩) = P ∧ (if (segB f z).size ≤ 1048576 then 0 else 40) = E := by
    by_cases hs : (segB f z).size ≤ 1048576
    · rw [if_pos hs, if_pos hs]; exact ⟨_, _, .inl ⟨hs, rfl, rfl⟩, rfl, rfl⟩
    · rw [if_neg hs, if_neg hs]; exact ⟨_, _, .inr ⟨by omega, rfl, rfl⟩, rfl, rfl⟩
  rw [hP, hE]
  have HPE := Lib.hid hPE
  have HS := Lib.hid h
  clear h hP hE hPE
  refine callsIn_of_wp_marks Tryz.func16 rfl trivial ?_
  simp only [Tryz.ntmps16, List.size_toArray, List.length_cons, List.length_nil, Nat.reduceAdd, Nat.reduceSub, Array.replicate_succ, Array.replicate_zero, List.push_toArray, List.append_toArray, List.nil_append, List.cons_append]
  gi_wp2
  refine ⟨trivial, (callsIn_wide.2 (number_any' f _)).mono ?_⟩
  rintro e' w1 ⟨rfl, rfl⟩
  gi_wp2
  refine ⟨trivial, (callsIn_wide.2 (H.out _ (strs_keep HS.out (((Below.refl _ _).alloc (Nat.le_refl _) _).alloc (by simp) _)))).mono ?_⟩
  rintro e' w1 ⟨rfl, rfl⟩
  gi_wp2
  refine ⟨trivial, (callsIn_wide.2 (segments_fn f oa len cap 47 #[] _)).mono ?_⟩
  rintro e' w1 ⟨rfl, rfl⟩
  gi_wp2
  obtain ⟨W0, eW⟩ : ∃ W0, (((((w.alloc (.cells #[.string ⟨#[]⟩] 9)).alloc (.cells #[.int .i64 0] 26)).alloc (.cells #[.int .i64 f] 2)).alloc (.cells #[.slice oa len cap] 23)).alloc (.cells #[.func (.func 47) #[] #[]] 82)) = W0 := ⟨_, rfl⟩
  obtain ⟨hr0, hr1, hr2, hr3, hr4⟩ := rows5 w (.cells #[.string ⟨#[]⟩] 9) (.cells #[.int .i64 0] 26) (.cells #[.int .i64 f] 2) (.cells #[.slice oa len cap] 23) (.cells #[.func (.func 47) #[] #[]] 82)
  rw [eW] at hr0 hr1 hr2 hr3 hr4
  have hB0 : Below w.heap.size w W0 := by rw [← eW]; exact (((((Below.refl _ _).alloc (Nat.le_refl _) _).alloc (by simp) _).alloc (by simp; omega) _).alloc (by simp; omega) _).alloc (by simp; omega) _
  have hz0 : W0.heap.size = w.heap.size + 5 := by rw [← eW]; simp
  have hS0 := strs_keep HS.out (hB0.mono (Nat.le_refl _))
  rw [eW]
  clear eW HS
  refine wp_rangeFunc_once (n := 2) (m := 1) (gf := 77) (lb := #[.pointer (some ⟨w.heap.size + 1 + 1, 0, none⟩), .pointer (some ⟨w.heap.size + 1 + 1 + 1, 0, none⟩), .pointer (some ⟨w.heap.size + 1 + 1 + 1 + 1, 0, none⟩)]) rfl (enters_of Tryz.func77 (by kernel_rfl) rfl)
    (encS (segB f z)) rfl (jnI w.heap.size (segB f z).size w) (jnX w.heap.size (segB f z) w) (jnI_own (by omega) (Nat.le_refl _)) (fun c => jnX_own (by omega) (Nat.le_refl _) c) ?seq
    { tmps := #[.int .i64 f, .slice oa len cap, undef, undef, .pointer (some ⟨w.heap.size, 0, none⟩), .pointer (some ⟨w.heap.size + 1, 0, none⟩), .int .i64 0, .func (.func 47) #[] #[], .string (segB f z), .int .i64 f, .bool true, .bool false,
      .int .i64 f, .slice oa len cap, .int .i64 0, .int .i64 0, .bool false, undef, .int .i64 f, .slice oa len cap, .func (.func 47) #[] #[],
      .func (.func 77) #[] #[.pointer (some ⟨w.heap.size + 1 + 1, 0, none⟩), .pointer (some ⟨w.heap.size + 1 + 1 + 1, 0, none⟩), .pointer (some ⟨w.heap.size + 1 + 1 + 1 + 1, 0, none⟩)],
      .string (segB f z), undef, undef, undef, undef], defers := [] } ?assign ?body ?done ?stop
  case seq =>
    intro l W R hW hY
    exact segs1_in 2 f len cap oa z l (w.heap.size + 2) W R hY ((hW.block _ (by omega)).trans hr2) ((hW.block _ (by omega)).trans hr3) ((hW.block _ (by omega)).trans hr4) (strs_keep hS0 (hW.mono (by omega))) hfl hp
  case assign =>
    intro l W K hK
    simp only [encS]
    gi_wp2
    exact hK
  case body =>
    intro l W hW
    have h0 := (hW.block _ (by omega)).trans hr0
    have h1 := (hW.block _ (by omega)).trans hr1
    have hBW := hB0.trans (hW.mono (by omega))
    generalize segB f z = S at HPE ⊢
    clear hr0 hr1 hr2 hr3 hr4 hS0 hp H
    have k0 : W.cell? ⟨w.heap.size, 0, none⟩ = some (.string ⟨#[]⟩) := by rw [cell_of_row _ _ _ _ _ _ h0]; rfl
    have k1 : W.cell? ⟨w.heap.size + 1, 0, none⟩ = some (.int .i64 0) := by rw [cell_of_row _ _ _ _ _ _ h1]; rfl
    have f0 : W.frozen? ⟨w.heap.size, 0, none⟩ = false := frozen_of_row _ _ _ _ _ h0
    have f1 : W.frozen? ⟨w.heap.size + 1, 0, none⟩ = false := frozen_of_row _ _ _ _ _ h1
    have ne1 : w.heap.size + 1 ≠ w.heap.size := by omega
    obtain ⟨n0, n1, hB2⟩ := two_set W w w.heap.size _ _ (.string S) (.int .i64 0) _ _ h0 h1 hBW
    have H0 := Lib.hid h0
    have H1 := Lib.hid h1
    have N0 := Lib.hid n0
    have N1 := Lib.hid n1
    clear h0 h1 n0 n1
    by_cases hs : S.size ≤ 1048576
    · have d2 : decide ((S.size : Int) ≤ 1048576) = true := decide_eq_true (by omega)
      gi_wp2
      exact ⟨(KeepsOthers.setCell _ _ _).trans (KeepsOthers.setCell _ _ _), rfl, hs, N0.out, N1.out, hB2⟩
    · have d2 : decide ((S.size : Int) ≤ 1048576) = false := decide_eq_false (by omega)
      gi_wp2
      exact ⟨KeepsOthers.refl _, trivial, by omega, H0.out, H1.out, hBW⟩
  case done =>
    rintro D W hD ⟨h1, h2, h3, h4⟩ hK
    obtain ⟨rfl, rfl⟩ : P = ⟨#[]⟩ ∧ E = 40 := by rcases HPE.out with ⟨h, _⟩ | ⟨_, h⟩ <;> first | exact h | omega
    have k0 : W.cell? ⟨w.heap.size, 0, none⟩ = some (.string ⟨#[]⟩) := by rw [cell_of_row _ _ _ _ _ _ h2]; rfl
    have k1 : W.cell? ⟨w.heap.size + 1, 0, none⟩ = some (.int .i64 0) := by rw [cell_of_row _ _ _ _ _ _ h3]; rfl
    have f0 : W.frozen? ⟨w.heap.size, 0, none⟩ = false := frozen_of_row _ _ _ _ _ h2
    have f1 : W.frozen? ⟨w.heap.size + 1, 0, none⟩ = false := frozen_of_row _ _ _ _ _ h3
    have ne1 : w.heap.size + 1 ≠ w.heap.size := by omega
    obtain ⟨n0, n1, hB2⟩ := two_set W w w.heap.size _ _ (.string ⟨#[]⟩) (.int .i64 40) _ _ h2 h3 h4
    have hK2 : ((W.setCell ⟨w.heap.size, 0, none⟩ (.string ⟨#[]⟩)).setCell ⟨w.heap.size + 1, 0, none⟩ (.int .i64 40)).heap[D]? = some (.deferred (some [])) :=
      (heap_setCell_ne _ _ _ (by show D ≠ w.heap.size + 1; omega)).trans ((heap_setCell_ne _ _ _ (by show D ≠ w.heap.size; omega)).trans hK)
    have hbD := hB2.trans (belowK_b (w := w) (Nat.le_refl _) _ D _ (.deferred none) (by omega) hK2 rfl rfl)
    have HBD := Lib.hid hbD
    have HK2 := Lib.hid hK2
    have N0 := Lib.hid n0
    have N1 := Lib.hid n1
    have hne : D ≠ w.heap.size := by omega
    have hne1 : D ≠ w.heap.size + 1 := by omega
    clear h1 h2 h3 h4 hK hK2 n0 n1 hB2 hbD hr0 hr1 hr2 hr3 hr4 hS0 hp H HPE
    gi_wp2
    refine ⟨by simp, .inl ⟨_, _, rfl, run_takeDeferred HK2.out, ?_⟩⟩
    exact ⟨_, results_jn _ _ w.heap.size _ _ rfl rfl (by rw [cell_of_row _ _ _ _ _ _ ((World.putObj_heap_other (by omega)).trans N0.out)]; rfl) (by rw [cell_of_row _ _ _ _ _ _ ((World.putObj_heap_other (by omega)).trans N1.out)]; rfl), rfl, HBD.out⟩
  case stop =>
    rintro D c W hD ⟨rfl, h1, h2, h3, h4⟩ hK
    obtain ⟨rfl, rfl⟩ : P = segB f z ∧ E = 0 := by rcases HPE.out with ⟨_, h⟩ | ⟨h, _⟩ <;> first | exact h | omega
    have hbD := h4.trans (belowK_b (w := w) (Nat.le_refl _) W D _ (.deferred none) (by omega) hK rfl rfl)
    have HBD := Lib.hid hbD
    have R0 := Lib.hid h2
    have R1 := Lib.hid h3
    clear h1 h2 h3 h4 hbD hr0 hr1 hr2 hr3 hr4 hS0 hp H HPE
    gi_wp2
    refine ⟨by simp, .inl ⟨_, _, rfl, run_takeDeferred hK, ?_⟩⟩
    exact ⟨_, results_jn _ _ w.heap.size _ _ rfl rfl (by rw [cell_of_row _ _ _ _ _ _ ((World.putObj_heap_other (by omega)).trans R0.out)]; rfl) (by rw [cell_of_row _ _ _ _ _ _ ((World.putObj_heap_other (by omega)).trans R1.out)]; rfl), rfl, HBD.out⟩

theorem segB_size (f : Nat) (z : List ByteArray) : (segB f z).size = 16 + sizeF (paysL z) := by unfold segB; rw [size_bs, List.length_append, hdr_len, join_len]
theorem pays_mem (z : List ByteArray) : (∃ l ∈ paysL z, ¬ payOk l) ↔ ∃ p ∈ z, ¬ payOk p.data.toList := by
  unfold paysL
  constructor
  · rintro ⟨l, hl, hn⟩
    obtain ⟨p, hp, rfl⟩ := List.mem_map.1 hl
    exact ⟨p, hp, hn⟩
  · rintro ⟨p, hp, hn⟩
    exact ⟨_, List.mem_map.2 ⟨p, hp, rfl⟩, hn⟩
theorem join_any {len cap : Nat} {oa : Option Addr} (f : Int) (z : List ByteArray) (w : World) (h : StrsIn w oa len cap z) :
    Calls Tryz.prog 16 #[.int .i64 f, .slice oa len cap] w fun e w' => e = .returned (.tuple #[.string (bs (jnL f (paysL z))), .int .i64 (jnE f (paysL z))]) ∧ Below w.heap.size w w' := by
  refine (callsIn_wide (n := 3)).1 ?_
  unfold jnL jnE
  by_cases hf : 0 ≤ f ∧ f ≤ 1048576
  · rw [if_neg (show ¬ (f < 0 ∨ 1048576 < f) by omega)]
    obtain ⟨g, rfl⟩ : ∃ g : Nat, f = g := ⟨f.toNat, by omega⟩
    have hw : wrE (g : Int) z = if ∃ l ∈ paysL z, ¬ payOk l then 4 else if 1048576 < (g : Int) + (paysL z).length then 40 else 0 := by
      unfold wrE
      rw [pays_len]
      by_cases h1 : ∃ p ∈ z, ¬ payOk p.data.toList
      · rw [if_pos h1, if_pos ((pays_mem z).2 h1)]
      · rw [if_neg h1, if_neg (fun hn => h1 ((pays_mem z).1 hn))]
    by_cases he : wrE (g : Int) z = 0
    · have hj := join_ok g z w (by omega) h he
      rw [hw] at he
      by_cases h1 : ∃ l ∈ paysL z, ¬ payOk l
      · rw [if_pos h1] at he; cases he
      rw [if_neg h1] at he ⊢
      by_cases h2 : 1048576 < (g : Int) + (paysL z).length
      · rw [if_pos h2] at he; cases he
      rw [if_neg h2]
      rw [segB_size] at hj
      by_cases h3 : 1048576 < 16 + sizeF (paysL z)
      · rw [if_pos h3]
        rw [if_neg (by omega), if_neg (by omega)] at hj
        exact hj
      · rw [if_neg h3]
        rw [if_pos (by omega), if_pos (by omega)] at hj
        exact hj
    · have hj := join_bad2 g z w hf h he
      rw [hw] at hj he
      by_cases h1 : ∃ l ∈ paysL z, ¬ payOk l
      · rw [if_pos h1] at hj ⊢; exact hj
      rw [if_neg h1] at hj he ⊢
      by_cases h2 : 1048576 < (g : Int) + (paysL z).length
      · rw [if_pos h2] at hj ⊢; exact hj
      · rw [if_neg h2] at he; exact absurd rfl he
  · rw [if_pos (show f < 0 ∨ 1048576 < f by omega)]
    exact join_bad1 f w hf

end Go.Proofs.YtaonjbkkgeiniaaGreatDoor
