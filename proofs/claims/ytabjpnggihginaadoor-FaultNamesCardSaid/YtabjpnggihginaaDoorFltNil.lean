/- fault.Ops, Find, Text of nil. -/
import Derived.Test.YtabjpnggihginaaDoorFltK
namespace Go.Proofs.YtabjpnggihginaaDoor
open Go.RowKit Go.Extern.Stop Go.Stop Go.Extern Go.Shelf
attribute [local go_sem] Oper.semAt_some

theorem text_nil (w : World) : Calls Tryd.prog 11 #[.nilIface] w fun e w' => e = .returned (.string ⟨#[]⟩) ∧ w' = w := by
  go_enter Tryd.func11, Tryd.ntmps11
  go_wp2_with fail
  go_ret
  exact ⟨rfl, rfl⟩
theorem chain_nil (w : World) :
    Calls Tryd.prog 27 #[.nilIface] w fun e w' => e = .returned (.func (.func 34) #[] #[.pointer (some ⟨w.heap.size, 0, none⟩)]) ∧ w.alloc (.cells #[.nilIface] 27) = w' := by
  go_enter Tryd.func27, Tryd.ntmps27
  go_wp2_with fail
  go_ret
  exact ⟨rfl, rfl⟩
set_option maxRecDepth 20000 in
set_option maxHeartbeats 2000000 in
theorem chain1_nil (n : Nat) (l b : Nat) (J : (Nat → Prop) → List (Nat × Wr) → World → Prop) (Jx : World → Prop) (E0 : Nat → Prop)
    (hJ : ∀ E s A B, J E s A → KeepX E A B → J (growE E A B) s B)
    (W : World) (h0 : W.heap[b]? = some (.cells #[.nilIface] 27)) (hJ0 : J E0 [] W) :
    CallsIn Fence.wide n Tryd.prog 34 #[.func (.yield l) #[] #[], .pointer (some ⟨b, 0, none⟩)] W fun e W' => (∃ v, e = .returned v) ∧ ((∃ E xs, xs = [] ∧ J E xs W') ∨ Jx W') := by
  refine callsIn_of_wp Tryd.func34 rfl trivial ?_
  simp only [Tryd.ntmps34, List.size_toArray, List.length_cons, List.length_nil, Nat.reduceAdd, Nat.reduceSub, Array.replicate_succ, Array.replicate_zero, List.push_toArray, List.append_toArray, List.nil_append, List.cons_append]
  obtain ⟨W0, eW⟩ : ∃ W0, W.alloc (.cells #[.pointer none] 55) = W0 := ⟨_, rfl⟩
  have hlb := (Array.getElem?_eq_some_iff.1 h0).1
  have e0 : W0.heap[b]? = some (.cells #[.nilIface] 27) := by rw [← eW]; exact (Below.heap_alloc _ _ _ hlb).trans h0
  have e2 : J (growE E0 W W0) [] W0 := hJ _ _ _ _ hJ0 (KeepX.of_below (by rw [← eW]; exact (Below.refl _ _).alloc (Nat.le_refl _) _))
  have H := Lib.hid (show ∃ E, J E [] W0 ∧ W0.heap[b]? = some (.cells #[.nilIface] 27) from ⟨_, e2, e0⟩)
  clear e0 e2 h0 hJ0 hlb
  gi_wp2
  gi_loopg [] 0 (fun _ wr => ∃ E, J E [] wr ∧ wr.heap[b]? = some (.cells #[.nilIface] 27))
  case atStart => exact H.out
  case round =>
    obtain ⟨E, hj, hvb⟩ := hrel
    clear H
    have cb : wr.cell? ⟨b, 0, none⟩ = some .nilIface := by rw [cell_of_row _ _ _ _ _ _ hvb]; rfl
    have HJ := Lib.hid hj
    clear hj hvb
    gi_wp2
    refine ⟨trivial, (fun h => by cases h), (callsIn_wide.2 (As_nil _ _)).mono ?_⟩
    rintro e w1 ⟨rfl, rfl⟩
    gi_wp2
    go_end0
    exact ⟨⟨_, rfl⟩, .inl ⟨_, _, rfl, HJ.out⟩⟩

set_option maxRecDepth 20000 in
set_option maxHeartbeats 2000000 in
theorem ops_nil (w : World) :
    Calls Tryd.prog 14 #[.nilIface] w fun e w' => ∃ oa cap, e = .returned (.slice oa 0 cap) ∧ Below w.heap.size w w' := by
  refine (callsIn_wide (n := 3)).1 ?_
  refine callsIn_of_wp_marks Tryd.func14 rfl trivial ?_
  simp only [Tryd.ntmps14, List.size_toArray, List.length_cons, List.length_nil, Nat.reduceAdd, Nat.reduceSub, Array.replicate_succ, Array.replicate_zero, List.push_toArray, List.append_toArray, List.nil_append, List.cons_append]
  gi_wp2
  refine ⟨trivial, (callsIn_wide.2 (chain_nil _)).mono ?_⟩
  rintro e w' ⟨rfl, rfl⟩
  simp only [World.size_alloc]
  obtain ⟨W0, eW⟩ : ∃ W0, (w.alloc (.cells #[.slice none 0 0] 33)).alloc (.cells #[.nilIface] 27) = W0 := ⟨_, rfl⟩
  have hz0 : W0.heap.size = w.heap.size + 2 := by rw [← eW]; simp
  have hr0 : W0.heap[w.heap.size]? = some (.cells #[.slice none 0 0] 33) := by rw [← eW]; exact (Below.heap_alloc _ _ _ (by simp)).trans (World.alloc_heap_new _ _)
  have hr1 : W0.heap[w.heap.size + 1]? = some (.cells #[.nilIface] 27) := by rw [← eW]; have := World.alloc_heap_new (w.alloc (.cells #[.slice none 0 0] 33)) (.cells #[.nilIface] 27); simpa using this
  have hb0 : Below w.heap.size w W0 := by rw [← eW]; exact ((Below.refl _ _).alloc (Nat.le_refl _) _).alloc (by simp) _
  rw [eW]
  clear eW
  gi_wp2
  refine wp_rangeFunc_ghost (n := 2) (m := 1) (gf := 34) (lb := #[.pointer (some ⟨w.heap.size + 1, 0, none⟩)]) rfl (enters_of Tryd.func34 (by kernel_rfl) rfl)
    encW (fun _ => rfl) (fun k => k = w.heap.size + 1) (fun k => k < w.heap.size) (fun k h => by omega) (fun k h => by omega)
    (opI w.heap.size w) (fun _ _ _ => False) (fun xs => xs = []) (fun _ _ => False)
    (fun E s A B hi _ hs hk => opI_keep hi (by omega) hk) (fun _ _ _ _ _ hi hl _ ho => opI_put hi (by omega) ho) (fun _ _ _ _ _ h => h.elim) (fun _ _ _ h => h.elim) ?start ?seq ?round ?done ?stop
  case start =>
    intro W hW
    refine ⟨none, 0, (hW.block _ (by omega)).trans hr0, World.ownsRow_nil _ _ _ _, hb0.trans (hW.mono (by omega)), by omega, (fun g h => by simp [Value.ownBlock] at h), fun k h => by omega⟩
  case seq =>
    intro l' J Jx W hW hJ hJd hJl hY hJ0
    exact chain1_nil 2 l' (w.heap.size + 1) J Jx _ hJ W ((hW.block _ (by omega)).trans hr1) hJ0
  case stop =>
    intro _ _ _ _ h
    exact h.elim
  case done =>
    rintro D E xs W hS ⟨oa, cap, h1, h2, h3, h4, h5, h6⟩ hD hd
    subst hS
    have c1 : W.cell? ⟨w.heap.size, 0, none⟩ = some (.slice oa 0 cap) := by rw [cell_of_row _ _ _ _ _ _ h1]; rfl
    have H3 := Lib.hid h3
    clear h1 h2 h3 h4 h5 h6 hr0 hr1 hb0
    gi_wp2
    refine ⟨by simp, .inl ⟨_, _, rfl, run_takeDeferred hd, ?_⟩⟩
    refine ⟨_, results_tmp rfl _ _ _, ?_⟩
    have hg := grownBy_putObj' W D (.deferred none)
    exact ⟨oa, cap, rfl, H3.out.grown hg H3.out.size (fun k e => by cases e; omega)⟩
  case round =>
    rintro l' E pre x W hI hv
    exact hv.elim

set_option maxRecDepth 20000 in
set_option maxHeartbeats 2000000 in
theorem find_nil (o : ByteArray) (w : World) :
    Calls Tryd.prog 15 #[.nilIface, .string o] w fun e w' => e = .returned (.tuple #[.string ⟨#[]⟩, .int .i64 0, .bool false]) ∧ Below w.heap.size w w' := by
  refine (callsIn_wide (n := 3)).1 ?_
  refine callsIn_of_wp_marks Tryd.func15 rfl trivial ?_
  simp only [Tryd.ntmps15, List.size_toArray, List.length_cons, List.length_nil, Nat.reduceAdd, Nat.reduceSub, Array.replicate_succ, Array.replicate_zero, List.push_toArray, List.append_toArray, List.nil_append, List.cons_append]
  gi_wp2
  refine ⟨trivial, (callsIn_wide.2 (chain_nil _)).mono ?_⟩
  rintro e w' ⟨rfl, rfl⟩
  simp only [World.size_alloc]
  obtain ⟨W0, eW⟩ : ∃ W0, ((((w.alloc (.cells #[.string o] 9)).alloc (.cells #[.string ⟨#[]⟩] 9)).alloc (.cells #[.int .i64 0] 2)).alloc (.cells #[.bool false] 4)).alloc (.cells #[.nilIface] 27) = W0 := ⟨_, rfl⟩
  have hz0 : W0.heap.size = w.heap.size + 5 := by rw [← eW]; simp
  obtain ⟨hr0, hr1, hr2, hr3, hr4⟩ := rows5 w (.cells #[.string o] 9) (.cells #[.string ⟨#[]⟩] 9) (.cells #[.int .i64 0] 2) (.cells #[.bool false] 4) (.cells #[.nilIface] 27)
  rw [eW] at hr0 hr1 hr2 hr3 hr4
  have hb0 : Below w.heap.size w W0 := by rw [← eW]; exact (((((Below.refl _ _).alloc (Nat.le_refl _) _).alloc (by simp) _).alloc (by simp; omega) _).alloc (by simp; omega) _).alloc (by simp; omega) _
  rw [eW]
  clear eW
  simp only [Nat.add_assoc, Nat.reduceAdd]
  gi_wp2
  refine wp_rangeFunc_ghost (n := 2) (m := 1) (gf := 34) (lb := #[.pointer (some ⟨w.heap.size + 4, 0, none⟩)]) rfl (enters_of Tryd.func34 (by kernel_rfl) rfl)
    encW (fun _ => rfl) (fun k => k = w.heap.size + 4) (fun k => k < w.heap.size) (fun k h => by omega) (fun k h => by omega)
    (fdI w.heap.size w o []) (fdX w.heap.size w o []) (fun xs => xs = []) (fun _ _ => False)
    (fun E s A B hi _ hs hk => fdI_keep hi hk) (fun _ _ _ _ _ hi hl _ _ => ⟨fdR_put hi.1 (by omega), below_put hi.2.1 (by omega) (by have := hi.1.lt; omega), hi.2.2⟩)
    (fun _ _ _ _ _ hi hl _ _ => ⟨hi.1, below_put hi.2.1 (by omega) (by obtain ⟨x, _, hx⟩ := hi.2.2; have := hx.lt; omega), hi.2.2.imp fun x hx => ⟨hx.1, fdR_put hx.2 (by omega)⟩⟩) (fun _ _ _ h => ⟨h.1, h.2.1.drew, h.2.2⟩) ?start ?seq ?round ?done ?stop
  case start =>
    intro W hW
    exact ⟨⟨(hW.block _ (by omega)).trans hr0, (hW.block _ (by omega)).trans hr1, (hW.block _ (by omega)).trans hr2, (hW.block _ (by omega)).trans hr3⟩, hb0.trans (hW.mono (by omega)), fun k h => by omega, (fun x hx => by cases hx), List.nil_prefix⟩
  case seq =>
    intro l' J Jx W hW hJ hJd hJl hY hJ0
    exact chain1_nil 2 l' (w.heap.size + 4) J Jx _ hJ W ((hW.block _ (by omega)).trans hr4) hJ0
  case stop =>
    rintro D c pre W ⟨rfl, hb, x, hx, hr⟩ hD hd
    cases hx
  case done =>
    rintro D E xs W hS ⟨h1, h2, h3, h4, h5⟩ hD hd
    subst hS
    obtain ⟨c0, c1, c2, c3, f1, f2, f3⟩ := fdR_cells h1
    have H1 := Lib.hid h1
    have H2 := Lib.hid h2
    clear h1 h2 h3 h4 h5 hr0 hr1 hr2 hr3 hr4 hb0
    gi_wp2
    have hr := fdR_set (c := ⟨#[]⟩) (m := 0) (d := false) H1.out
    have hb := ((H2.out.setCell (p := ⟨w.heap.size + 1, 0, none⟩) (by show w.heap.size ≤ w.heap.size + 1; omega) (.string ⟨#[]⟩)).setCell (p := ⟨w.heap.size + 2, 0, none⟩) (by show w.heap.size ≤ w.heap.size + 2; omega) (.int .i64 0)).setCell (p := ⟨w.heap.size + 3, 0, none⟩) (by show w.heap.size ≤ w.heap.size + 3; omega) (.bool false)
    have hd5 : (((W.setCell ⟨w.heap.size + 1, 0, none⟩ (.string ⟨#[]⟩)).setCell ⟨w.heap.size + 2, 0, none⟩ (.int .i64 0)).setCell ⟨w.heap.size + 3, 0, none⟩ (.bool false)).heap[D]? = some (.deferred (some [])) :=
      (heap_setCell_ne' _ _ _ (by show D ≠ w.heap.size + 3; omega)).trans ((heap_setCell_ne' _ _ _ (by show D ≠ w.heap.size + 2; omega)).trans ((heap_setCell_ne' _ _ _ (by show D ≠ w.heap.size + 1; omega)).trans hd))
    refine ⟨by simp, .inl ⟨_, _, rfl, run_takeDeferred hd5, ?_⟩⟩
    have hl := hr.lt
    exact ⟨_, results_fd _ _ w.heap.size o ⟨#[]⟩ 0 false rfl rfl rfl (fdR_put hr (by omega)), rfl, below_put hb (by omega) (by omega)⟩
  case round =>
    rintro l' E pre x W hI hv
    exact hv.elim
end Go.Proofs.YtabjpnggihginaaDoor
