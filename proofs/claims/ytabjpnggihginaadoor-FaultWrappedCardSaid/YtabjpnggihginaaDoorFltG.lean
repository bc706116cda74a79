/- fault.Find. -/
import Derived.Test.YtabjpnggihginaaDoorFltF
namespace Go.Proofs.YtabjpnggihginaaDoor
open Go.RowKit Go.Extern.Stop Go.Stop Go.Extern Go.Shelf
attribute [local go_sem] Oper.semAt_some

theorem str_same (a : ByteArray) : (a.toList == a.toList) = true := by simp
theorem str_other {a b : ByteArray} (h : a ≠ b) : (a.toList == b.toList) = false := by
  rw [beq_eq_false_iff_ne]
  intro e
  rw [ByteArray.toList_eq, ByteArray.toList_eq] at e
  exact h (Go.WideShapes.bytes_inj e)
/-- the outermost one of that name -/
def fstW (o : ByteArray) : List Wr → Option Wr
  | [] => none
  | x :: l => if x.op = o then some x else fstW o l
def fndV (o : ByteArray) (l : List Wr) : Value :=
  match fstW o l with
  | some x => .tuple #[.string x.nm, .int .i64 x.pl, .bool true]
  | none => .tuple #[.string ⟨#[]⟩, .int .i64 0, .bool false]

/-- the cells of Find: its own copy of op, and the three results -/
def fdR (h : Nat) (o a : ByteArray) (n : Int) (b : Bool) (W : World) : Prop :=
  W.heap[h]? = some (.cells #[.string o] 9) ∧ W.heap[h + 1]? = some (.cells #[.string a] 9) ∧ W.heap[h + 2]? = some (.cells #[.int .i64 n] 2) ∧ W.heap[h + 3]? = some (.cells #[.bool b] 4)
def fdI (h : Nat) (w : World) (o : ByteArray) (ns : List (Nat × Wr)) (E : Nat → Prop) (xs : List (Nat × Wr)) (W : World) : Prop :=
  fdR h o ⟨#[]⟩ 0 false W ∧ Below h w W ∧ (∀ k, E k → h + 4 ≤ k) ∧ (∀ x ∈ xs, x.2.op ≠ o) ∧ xs <+: ns
def fdX (h : Nat) (w : World) (o : ByteArray) (ns : List (Nat × Wr)) (c : Code) (_ : List (Nat × Wr)) (W : World) : Prop :=
  c = .ret ∧ Below h w W ∧ ∃ x, fstW o (ns.map (·.2)) = some x ∧ fdR h o x.nm x.pl true W

theorem fdR.keep {h : Nat} {o a : ByteArray} {n : Int} {b : Bool} {W W' : World} (r : fdR h o a n b W) (hs : ∀ k, h ≤ k → k ≤ h + 3 → W'.heap[k]? = W.heap[k]?) : fdR h o a n b W' :=
  ⟨(hs _ (by omega) (by omega)).trans r.1, (hs _ (by omega) (by omega)).trans r.2.1, (hs _ (by omega) (by omega)).trans r.2.2.1, (hs _ (by omega) (by omega)).trans r.2.2.2⟩
theorem fdR.lt {h : Nat} {o a : ByteArray} {n : Int} {b : Bool} {W : World} (r : fdR h o a n b W) : h + 3 < W.heap.size := (Array.getElem?_eq_some_iff.1 r.2.2.2).1
theorem fdI_keep {h : Nat} {w : World} {o : ByteArray} {ns : List (Nat × Wr)} {E : Nat → Prop} {xs : List (Nat × Wr)} {W W' : World} (hI : fdI h w o ns E xs W) (hk : KeepX E W W') : fdI h w o ns (growE E W W') xs W' := by
  obtain ⟨h1, h2, h3, h4⟩ := hI
  have hl := h1.lt
  exact ⟨h1.keep (fun k _ hk2 => hk.block k (by omega) (fun e => by have := h3 k e; omega)), h2.trans (hk.below (by omega) (fun k e => by have := h3 k e; omega)), fun k e => e.elim (h3 k) (fun e => by omega), h4⟩
theorem fdR_put {h : Nat} {o a : ByteArray} {n : Int} {b : Bool} {W : World} {l : Nat} {ob : Obj} (r : fdR h o a n b W) (hl : h + 4 ≤ l) : fdR h o a n b (W.putObj l ob) :=
  r.keep (fun k _ _ => World.putObj_heap_other (by omega))
theorem below_put {h l : Nat} {w W : World} {o : Obj} (hb : Below h w W) (hl : h ≤ l) (hz : h ≤ W.heap.size) : Below h w (W.putObj l o) :=
  hb.grown (grownBy_putObj' W l o) hz (fun k e => by cases e; omega)

theorem fdR_set {h : Nat} {o a c : ByteArray} {n m : Int} {b d : Bool} {W : World} (r : fdR h o a n b W) :
    fdR h o c m d (((W.setCell ⟨h + 1, 0, none⟩ (.string c)).setCell ⟨h + 2, 0, none⟩ (.int .i64 m)).setCell ⟨h + 3, 0, none⟩ (.bool d)) := by
  obtain ⟨r0, r1, r2, r3⟩ := r
  refine ⟨?_, ?_, ?_, ?_⟩
  · rw [heap_setCell_ne' _ _ _ (by show h ≠ h + 3; omega), heap_setCell_ne' _ _ _ (by show h ≠ h + 2; omega), heap_setCell_ne' _ _ _ (by show h ≠ h + 1; omega)]; exact r0
  · rw [heap_setCell_ne' _ _ _ (by show h + 1 ≠ h + 3; omega), heap_setCell_ne' _ _ _ (by show h + 1 ≠ h + 2; omega)]; exact heap_setCell_same _ _ 0 _ _ _ r1
  · rw [heap_setCell_ne' _ _ _ (by show h + 2 ≠ h + 3; omega)]
    exact heap_setCell_same _ _ 0 _ _ _ ((heap_setCell_ne' _ _ _ (by show h + 2 ≠ h + 1; omega)).trans r2)
  · exact heap_setCell_same _ _ 0 _ _ _ ((heap_setCell_ne' _ _ _ (by show h + 3 ≠ h + 2; omega)).trans ((heap_setCell_ne' _ _ _ (by show h + 3 ≠ h + 1; omega)).trans r3))
theorem fdR_cells {h : Nat} {o a : ByteArray} {n : Int} {b : Bool} {W : World} (r : fdR h o a n b W) :
    W.cell? ⟨h, 0, none⟩ = some (.string o) ∧ W.cell? ⟨h + 1, 0, none⟩ = some (.string a) ∧ W.cell? ⟨h + 2, 0, none⟩ = some (.int .i64 n) ∧ W.cell? ⟨h + 3, 0, none⟩ = some (.bool b) ∧
    W.frozen? ⟨h + 1, 0, none⟩ = false ∧ W.frozen? ⟨h + 2, 0, none⟩ = false ∧ W.frozen? ⟨h + 3, 0, none⟩ = false :=
  ⟨by rw [cell_of_row _ _ _ _ _ _ r.1]; rfl, by rw [cell_of_row _ _ _ _ _ _ r.2.1]; rfl, by rw [cell_of_row _ _ _ _ _ _ r.2.2.1]; rfl, by rw [cell_of_row _ _ _ _ _ _ r.2.2.2]; rfl, frozen_of_row _ _ _ _ _ r.2.1, frozen_of_row _ _ _ _ _ r.2.2.1, frozen_of_row _ _ _ _ _ r.2.2.2⟩
theorem results_fd (tmps : Array Value) (w : World) (h : Nat) (o a : ByteArray) (n : Int) (b : Bool) (hp : tmps.getD 4 undef = .pointer (some ⟨h + 1, 0, none⟩)) (hq : tmps.getD 5 undef = .pointer (some ⟨h + 2, 0, none⟩)) (hr : tmps.getD 6 undef = .pointer (some ⟨h + 3, 0, none⟩))
    (r : fdR h o a n b w) : (results Tryd.f15 tmps).run Tryd.prog w = .ok (.tuple #[.string a, .int .i64 n, .bool b]) w := by
  have hp' : tmps[4]?.getD undef = .pointer (some ⟨h + 1, 0, none⟩) := by simpa using hp
  have hq' : tmps[5]?.getD undef = .pointer (some ⟨h + 2, 0, none⟩) := by simpa using hq
  have hr' : tmps[6]?.getD undef = .pointer (some ⟨h + 3, 0, none⟩) := by simpa using hr
  obtain ⟨_, c1, c2, c3, _⟩ := fdR_cells r
  simp [results, hp', hq', hr', asAddr, loadVar, go_sem, c1, c2, c3]

theorem fst_none {o : ByteArray} : ∀ {ns : List (Nat × Wr)}, (∀ x ∈ ns, x.2.op ≠ o) → fstW o (ns.map (·.2)) = none
  | [], _ => rfl
  | x :: ns, h => by
    rw [List.map_cons, fstW, if_neg (h x (List.mem_cons_self ..))]
    exact fst_none (fun y hy => h y (List.mem_cons_of_mem _ hy))
theorem fst_at {o : ByteArray} : ∀ {pre ns : List (Nat × Wr)} {x : Nat × Wr}, (∀ y ∈ pre, y.2.op ≠ o) → ns[pre.length]? = some x → pre <+: ns → x.2.op = o → fstW o (ns.map (·.2)) = some x.2
  | [], ns, x, _, hx, _, ho => by
    cases ns with
    | nil => cases hx
    | cons y ns =>
      simp at hx
      subst hx
      rw [List.map_cons, fstW, if_pos ho]
  | y :: pre, ns, x, hp, hx, hpre, ho => by
    cases ns with
    | nil => cases hx
    | cons z ns =>
      have hz := List.cons_prefix_cons.1 hpre
      rw [List.map_cons, fstW, if_neg (hz.1 ▸ hp y (List.mem_cons_self ..))]
      exact fst_at (fun q hq => hp q (List.mem_cons_of_mem _ hq)) (by simpa using hx) hz.2 ho

theorem rows5 (w : World) (A B C D E : Obj) : (((((w.alloc A).alloc B).alloc C).alloc D).alloc E).heap[w.heap.size]? = some A ∧ (((((w.alloc A).alloc B).alloc C).alloc D).alloc E).heap[w.heap.size + 1]? = some B ∧
    (((((w.alloc A).alloc B).alloc C).alloc D).alloc E).heap[w.heap.size + 2]? = some C ∧ (((((w.alloc A).alloc B).alloc C).alloc D).alloc E).heap[w.heap.size + 3]? = some D ∧ (((((w.alloc A).alloc B).alloc C).alloc D).alloc E).heap[w.heap.size + 4]? = some E := by
  refine ⟨?_, ?_, ?_, ?_, ?_⟩
  · rw [Below.heap_alloc _ _ _ (by simp only [World.size_alloc]; omega), Below.heap_alloc _ _ _ (by simp only [World.size_alloc]; omega), Below.heap_alloc _ _ _ (by simp only [World.size_alloc]; omega), Below.heap_alloc _ _ _ (by simp), World.alloc_heap_new]
  · rw [Below.heap_alloc _ _ _ (by simp only [World.size_alloc]; omega), Below.heap_alloc _ _ _ (by simp only [World.size_alloc]; omega), Below.heap_alloc _ _ _ (by simp)]; have := World.alloc_heap_new (w.alloc A) B; simpa using this
  · rw [Below.heap_alloc _ _ _ (by simp only [World.size_alloc]; omega), Below.heap_alloc _ _ _ (by simp)]; have := World.alloc_heap_new ((w.alloc A).alloc B) C; simpa using this
  · rw [Below.heap_alloc _ _ _ (by simp)]; have := World.alloc_heap_new (((w.alloc A).alloc B).alloc C) D; simpa using this
  · have := World.alloc_heap_new ((((w.alloc A).alloc B).alloc C).alloc D) E; simpa using this


set_option maxRecDepth 20000 in
set_option maxHeartbeats 2000000 in
theorem find_in (l : List Wr) (b0 : Value) (hB : Base b0) (v : Value) (o : ByteArray) (w : World) (hc : Chn w b0 l v) (hT : ErrT w) :
    CallsIn Fence.wide 3 Tryd.prog 15 #[v, .string o] w fun e w' => e = .returned (fndV o l) ∧ Below w.heap.size w w' := by
  obtain ⟨ns, hns, hcb⟩ := hc.blocks
  obtain ⟨tb, xb, eb⟩ := hB.iface
  obtain ⟨tv, yv, rfl⟩ : ∃ t y, v = .iface t y := by rw [eb] at hc; exact hc.iface
  have hlt := hcb.lt
  refine callsIn_of_wp_marks Tryd.func15 rfl trivial ?_
  simp only [Tryd.ntmps15, List.size_toArray, List.length_cons, List.length_nil, Nat.reduceAdd, Nat.reduceSub, Array.replicate_succ, Array.replicate_zero, List.push_toArray, List.append_toArray, List.nil_append, List.cons_append]
  have HC := Lib.hid hcb
  have HT := Lib.hid hT
  have HN := Lib.hid hns
  clear hc hcb hT hns eb
  gi_wp2
  refine ⟨trivial, (callsIn_wide.2 (chain_any tv yv _)).mono ?_⟩
  rintro e w' ⟨rfl, rfl⟩
  simp only [World.size_alloc]
  obtain ⟨W0, eW⟩ : ∃ W0, ((((w.alloc (.cells #[.string o] 9)).alloc (.cells #[.string ⟨#[]⟩] 9)).alloc (.cells #[.int .i64 0] 2)).alloc (.cells #[.bool false] 4)).alloc (.cells #[.iface tv yv] 27) = W0 := ⟨_, rfl⟩
  have hz0 : W0.heap.size = w.heap.size + 5 := by rw [← eW]; simp
  obtain ⟨hr0, hr1, hr2, hr3, hr4⟩ := rows5 w (.cells #[.string o] 9) (.cells #[.string ⟨#[]⟩] 9) (.cells #[.int .i64 0] 2) (.cells #[.bool false] 4) (.cells #[.iface tv yv] 27)
  rw [eW] at hr0 hr1 hr2 hr3 hr4
  have hb0 : Below w.heap.size w W0 := by rw [← eW]; exact (((((Below.refl _ _).alloc (Nat.le_refl _) _).alloc (by simp) _).alloc (by simp; omega) _).alloc (by simp; omega) _).alloc (by simp; omega) _
  rw [eW]
  clear eW
  simp only [Nat.add_assoc, Nat.reduceAdd]
  gi_wp2
  refine wp_rangeFunc_ghost (n := 2) (m := 1) (gf := 34) (lb := #[.pointer (some ⟨w.heap.size + 4, 0, none⟩)]) rfl (enters_of Tryd.func34 (by kernel_rfl) rfl)
    encW (fun _ => rfl) (fun k => k = w.heap.size + 4) (fun k => k < w.heap.size) (fun k h => by omega) (fun k h => by omega)
    (fdI w.heap.size w o ns) (fdX w.heap.size w o ns) (fun xs => xs = ns) (fun pre x => ns[pre.length]? = some x)
    (fun E s A B hi _ hs hk => fdI_keep hi hk) (fun _ _ _ _ _ hi hl _ _ => ⟨fdR_put hi.1 (by omega), below_put hi.2.1 (by omega) (by have := hi.1.lt; omega), hi.2.2⟩)
    (fun _ _ _ _ _ hi hl _ _ => ⟨hi.1, below_put hi.2.1 (by omega) (by obtain ⟨x, _, hx⟩ := hi.2.2; have := hx.lt; omega), hi.2.2.imp fun x hx => ⟨hx.1, fdR_put hx.2 (by omega)⟩⟩) (fun _ _ _ h => ⟨h.1, h.2.1.drew, h.2.2⟩) ?start ?seq ?round ?done ?stop
  case start =>
    intro W hW
    exact ⟨⟨(hW.block _ (by omega)).trans hr0, (hW.block _ (by omega)).trans hr1, (hW.block _ (by omega)).trans hr2, (hW.block _ (by omega)).trans hr3⟩, hb0.trans (hW.mono (by omega)), fun k h => by omega, (fun x hx => by cases hx), List.nil_prefix⟩
  case seq =>
    intro l' J Jx W hW hJ hJd hJl hY hJ0
    exact chain1_in 2 b0 hB ns (.iface tv yv) w HC.out HT.out l' (w.heap.size + 4) (by omega) J Jx _ (fun _ => Iff.rfl) hJ hJd hJl hY W (fun k hk => (hW.block _ (by omega)).trans (hb0.block _ hk)) ((hW.block _ (by omega)).trans hr4) hJ0
  case stop =>
    rintro D c pre W ⟨rfl, hb, x, hx, hr⟩ hD hd
    gi_wp2
    refine ⟨by simp, .inl ⟨_, _, rfl, run_takeDeferred hd, ?_⟩⟩
    have hl := hr.lt
    refine ⟨_, results_fd _ _ w.heap.size o x.nm x.pl true rfl rfl rfl (fdR_put hr (by omega)), ?_, below_put hb (by omega) (by omega)⟩
    rw [HN.out] at hx
    unfold fndV
    rw [hx]
  case done =>
    rintro D E xs W hS ⟨h1, h2, h3, h4, h5⟩ hD hd
    subst hS
    obtain ⟨c0, c1, c2, c3, f1, f2, f3⟩ := fdR_cells h1
    have H1 := Lib.hid h1
    have H2 := Lib.hid h2
    have H4 := Lib.hid h4
    clear h1 h2 h3 h4 h5 hlt hr0 hr1 hr2 hr3 hr4 hb0
    gi_wp2
    have hr := fdR_set (c := ⟨#[]⟩) (m := 0) (d := false) H1.out
    have hb := ((H2.out.setCell (p := ⟨w.heap.size + 1, 0, none⟩) (by show w.heap.size ≤ w.heap.size + 1; omega) (.string ⟨#[]⟩)).setCell (p := ⟨w.heap.size + 2, 0, none⟩) (by show w.heap.size ≤ w.heap.size + 2; omega) (.int .i64 0)).setCell (p := ⟨w.heap.size + 3, 0, none⟩) (by show w.heap.size ≤ w.heap.size + 3; omega) (.bool false)
    have hd5 : (((W.setCell ⟨w.heap.size + 1, 0, none⟩ (.string ⟨#[]⟩)).setCell ⟨w.heap.size + 2, 0, none⟩ (.int .i64 0)).setCell ⟨w.heap.size + 3, 0, none⟩ (.bool false)).heap[D]? = some (.deferred (some [])) :=
      (heap_setCell_ne' _ _ _ (by show D ≠ w.heap.size + 3; omega)).trans ((heap_setCell_ne' _ _ _ (by show D ≠ w.heap.size + 2; omega)).trans ((heap_setCell_ne' _ _ _ (by show D ≠ w.heap.size + 1; omega)).trans hd))
    refine ⟨by simp, .inl ⟨_, _, rfl, run_takeDeferred hd5, ?_⟩⟩
    have hl := hr.lt
    refine ⟨_, results_fd _ _ w.heap.size o ⟨#[]⟩ 0 false rfl rfl rfl (fdR_put hr (by omega)), ?_, below_put hb (by omega) (by omega)⟩
    have hx := fst_none H4.out
    rw [HN.out] at hx
    unfold fndV
    rw [hx]
  case round =>
    rintro l' E pre x W hI hv hEl hl' hlo hnE K hK
    simp only [encW]
    gi_wp2
    refine hK _ _ (KeepsOthers.refl _) ?_
    clear hK
    intro ob
    obtain ⟨u, hx0⟩ := HC.out.at x (List.mem_of_getElem? hv)
    have hxl := hlt x (List.mem_of_getElem? hv)
    obtain ⟨W2, eW2⟩ : ∃ W2, W.putObj l' ob = W2 := ⟨_, rfl⟩
    have hI2 : fdI w.heap.size w o ns E pre W2 := by rw [← eW2]; exact ⟨fdR_put hI.1 (by omega), below_put hI.2.1 (by omega) (by have := hI.1.lt; omega), hI.2.2⟩
    have hs2 : W2.heap.size = W.heap.size := by rw [← eW2]; simp
    have hW2 : ∀ k, k ≠ l' → W2.heap[k]? = W.heap[k]? := fun k hk => by rw [← eW2]; exact World.putObj_heap_other hk
    rw [eW2]
    clear eW2 hI hlo
    obtain ⟨h1, h2, h3, h4, h5⟩ := hI2
    have x2 : W2.heap[x.1]? = _ := (h2.block _ hxl).trans hx0
    have x0 : W2.cell? ⟨x.1, 0, none⟩ = some (.string x.2.op) := by rw [cell_of_row _ _ _ _ _ _ x2]; rfl
    have x1 : W2.cell? ⟨x.1, 1, none⟩ = some (.string x.2.nm) := by rw [cell_of_row _ _ _ _ _ _ x2]; rfl
    have xp : W2.cell? ⟨x.1, 2, none⟩ = some (.int .i64 x.2.pl) := by rw [cell_of_row _ _ _ _ _ _ x2]; rfl
    obtain ⟨c0, c1, c2, c3, f1, f2, f3⟩ := fdR_cells h1
    have HH := Lib.hid (⟨h1, h2, h3, h4, h5⟩ : fdI w.heap.size w o ns E pre W2)
    have HW2 := Lib.hid hW2
    have HS2 := Lib.hid hs2
    clear h1 h2 h3 h4 h5 hW2 hs2 hr0 hr1 hr2 hr3 hr4 hb0
    gi_wp2
    refine wpIn_region_round (by kernel_rfl) (by kernel_rfl) (by rintro ⟨a, w, h⟩; exact h) ?_
    refine wpAny_of_held (S := fun w' => w'.cell? ⟨w.heap.size, 0, none⟩ = some (.string o) ∧ w'.cell? ⟨x.1, 0, none⟩ = some (.string x.2.op)) _ _ _ _ ?_
    have hHeld : W2.drew.cell? ⟨w.heap.size, 0, none⟩ = some (.string o) ∧ W2.drew.cell? ⟨x.1, 0, none⟩ = some (.string x.2.op) := ⟨c0, x0⟩
    refine wpAnyH_take (i := 0) (v := .pointer (some ⟨x.1, 0, none⟩)) rfl (by kernel_rfl) (by kernel_rfl) (by kernel_rfl) (fun _ _ _ h => h) (Or.inl ⟨by rfl, fun w' _ => by go_simp⟩) hHeld ?_
    refine wpAnyH_take (i := 1) (v := .pointer (some ⟨x.1, 0, none⟩)) rfl (by kernel_rfl) (by kernel_rfl) (by kernel_rfl) (fun _ _ _ h => h) (Or.inl ⟨by rfl, fun w' _ => by go_simp⟩) hHeld ?_
    refine wpAnyH_take (i := 2) (v := .pointer (some ⟨x.1, 0, none⟩)) rfl (by kernel_rfl) (by kernel_rfl) (by kernel_rfl) (fun _ _ _ h => h) (Or.inl ⟨by rfl, fun w' _ => by go_simp⟩) hHeld ?_
    refine wpAnyH_take (i := 3) (v := .string x.2.op) rfl (by kernel_rfl) (by kernel_rfl) (by kernel_rfl) (fun _ _ _ h => h) (Or.inl ⟨by rfl, fun w' hS => by obtain ⟨hS1, hS2⟩ := hS; go_simp⟩) hHeld ?_
    refine wpAnyH_take (i := 4) (v := .string o) rfl (by kernel_rfl) (by kernel_rfl) (by kernel_rfl) (fun _ _ _ h => h) (Or.inl ⟨by rfl, fun w' hS => by obtain ⟨hS1, hS2⟩ := hS; go_simp⟩) hHeld ?_
    refine wpAnyH_ready (rs := [5]) (by kernel_rfl) (by simp) ?_
    refine AllReadyH.cons rfl (fun K hK => ?_) AllReadyH.nil
    go_simp
    refine hK.out _ _ hHeld (fun hHeld => ?_)
    clear hK K
    refine wpAnyH_done (by kernel_rfl) ?_ _
    clear hHeld
    by_cases heq : x.2.op = o
    · have hb : (x.2.op.toList == o.toList) = true := by rw [heq]; exact str_same o
      rw [hb]
      gi_wp2
      refine wpIn_region_round (by kernel_rfl) (by kernel_rfl) (by rintro ⟨a, w, h⟩; exact h) ?_
      refine wpAny_of_held (S := fun w' => w'.cell? ⟨x.1, 1, none⟩ = some (.string x.2.nm) ∧ w'.cell? ⟨x.1, 2, none⟩ = some (.int .i64 x.2.pl)) _ _ _ _ ?_
      have hHeld : W2.drew.drew.cell? ⟨x.1, 1, none⟩ = some (.string x.2.nm) ∧ W2.drew.drew.cell? ⟨x.1, 2, none⟩ = some (.int .i64 x.2.pl) := ⟨x1, xp⟩
      refine wpAnyH_take (i := 0) (v := .pointer (some ⟨x.1, 0, none⟩)) rfl (by kernel_rfl) (by kernel_rfl) (by kernel_rfl) (fun _ _ _ h => h) (Or.inl ⟨by rfl, fun w' hS => by obtain ⟨hS1, hS2⟩ := hS; go_simp⟩) hHeld ?_
      refine wpAnyH_take (i := 1) (v := .pointer (some ⟨x.1, 0, none⟩)) rfl (by kernel_rfl) (by kernel_rfl) (by kernel_rfl) (fun _ _ _ h => h) (Or.inl ⟨by rfl, fun w' hS => by obtain ⟨hS1, hS2⟩ := hS; go_simp⟩) hHeld ?_
      refine wpAnyH_take (i := 2) (v := .pointer (some ⟨x.1, 1, none⟩)) rfl (by kernel_rfl) (by kernel_rfl) (by kernel_rfl) (fun _ _ _ h => h) (Or.inl ⟨by rfl, fun w' hS => by obtain ⟨hS1, hS2⟩ := hS; go_simp⟩) hHeld ?_
      refine wpAnyH_take (i := 3) (v := .string x.2.nm) rfl (by kernel_rfl) (by kernel_rfl) (by kernel_rfl) (fun _ _ _ h => h) (Or.inl ⟨by rfl, fun w' hS => by obtain ⟨hS1, hS2⟩ := hS; go_simp⟩) hHeld ?_
      refine wpAnyH_take (i := 4) (v := .pointer (some ⟨x.1, 0, none⟩)) rfl (by kernel_rfl) (by kernel_rfl) (by kernel_rfl) (fun _ _ _ h => h) (Or.inl ⟨by rfl, fun w' hS => by obtain ⟨hS1, hS2⟩ := hS; go_simp⟩) hHeld ?_
      refine wpAnyH_take (i := 5) (v := .pointer (some ⟨x.1, 0, none⟩)) rfl (by kernel_rfl) (by kernel_rfl) (by kernel_rfl) (fun _ _ _ h => h) (Or.inl ⟨by rfl, fun w' hS => by obtain ⟨hS1, hS2⟩ := hS; go_simp⟩) hHeld ?_
      refine wpAnyH_take (i := 6) (v := .pointer (some ⟨x.1, 2, none⟩)) rfl (by kernel_rfl) (by kernel_rfl) (by kernel_rfl) (fun _ _ _ h => h) (Or.inl ⟨by rfl, fun w' hS => by obtain ⟨hS1, hS2⟩ := hS; go_simp⟩) hHeld ?_
      refine wpAnyH_take (i := 7) (v := .int .i64 x.2.pl) rfl (by kernel_rfl) (by kernel_rfl) (by kernel_rfl) (fun _ _ _ h => h) (Or.inl ⟨by rfl, fun w' hS => by obtain ⟨hS1, hS2⟩ := hS; go_simp⟩) hHeld ?_
      have hxh : x.1 ≠ w.heap.size + 1 ∧ x.1 ≠ w.heap.size + 2 ∧ x.1 ≠ w.heap.size + 3 := ⟨by omega, by omega, by omega⟩
      refine wpAnyH_ready (rs := [8]) (by kernel_rfl) (by simp) ?_
      refine AllReadyH.cons rfl (fun K hK => ?_) AllReadyH.nil
      go_simp
      refine hK.out _ _ ⟨(World.cell?_setCell_far _ _ _ _ hxh.1.symm).trans hHeld.1, (World.cell?_setCell_far _ _ _ _ hxh.1.symm).trans hHeld.2⟩ (fun hHeld => ?_)
      clear hK K
      refine wpAnyH_ready (rs := [9]) (by kernel_rfl) (by simp) ?_
      refine AllReadyH.cons rfl (fun K hK => ?_) AllReadyH.nil
      go_simp
      refine hK.out _ _ ⟨(World.cell?_setCell_far _ _ _ _ hxh.2.1.symm).trans hHeld.1, (World.cell?_setCell_far _ _ _ _ hxh.2.1.symm).trans hHeld.2⟩ (fun hHeld => ?_)
      clear hK K
      refine wpAnyH_ready (rs := [10]) (by kernel_rfl) (by simp) ?_
      refine AllReadyH.cons rfl (fun K hK => ?_) AllReadyH.nil
      go_simp
      refine hK.out _ _ ⟨(World.cell?_setCell_far _ _ _ _ hxh.2.2.symm).trans hHeld.1, (World.cell?_setCell_far _ _ _ _ hxh.2.2.symm).trans hHeld.2⟩ (fun hHeld => ?_)
      clear hK K
      refine wpAnyH_done (by kernel_rfl) ?_ _
      clear hHeld hxh
      gi_wp2
      obtain ⟨h1, h2, h3, h4, h5⟩ := HH.out
      refine ⟨((((KeepsOthers.setCell _ _ _).trans (KeepsOthers.setCell _ _ _)).trans (KeepsOthers.setCell _ _ _)).trans (KeepsOthers.drew _)).trans (KeepsOthers.drew _), rfl, ?_, x.2, fst_at h4 hv h5 heq, fdR_set (c := x.2.nm) (m := x.2.pl) (d := true) h1⟩
      exact ((((h2.setCell (p := ⟨w.heap.size + 1, 0, none⟩) (by show w.heap.size ≤ w.heap.size + 1; omega) _).setCell (p := ⟨w.heap.size + 2, 0, none⟩) (by show w.heap.size ≤ w.heap.size + 2; omega) _).setCell (p := ⟨w.heap.size + 3, 0, none⟩) (by show w.heap.size ≤ w.heap.size + 3; omega) _).drew).drew
    · have hb := str_other heq
      rw [hb]
      gi_wp2
      obtain ⟨h1, h2, h3, h4, h5⟩ := HH.out
      refine ⟨KeepsOthers.drew _, fun k hk => HW2.out k (fun e => hk.elim (fun e' => hnE (e ▸ e')) (fun e' => by omega)), h1, h2.drew, h3, ?_, ?_⟩
      · intro y hy
        rcases List.mem_append.1 hy with hy | hy
        · exact h4 y hy
        · obtain rfl := List.mem_singleton.1 hy; exact heq
      · obtain ⟨t, ht⟩ := h5
        subst ht
        rw [List.getElem?_append_right (Nat.le_refl _), Nat.sub_self] at hv
        cases t with
        | nil => cases hv
        | cons y t => simp at hv; subst hv; exact ⟨t, by simp⟩
end Go.Proofs.YtabjpnggihginaaDoor
