/- fault.Ops. -/
import Derived.Test.YtabjpnggihginaaDoorFltE
import Derived.Test.YtabjpnggihginaaDoorRegionIn
import Derived.Deep.RegionLawGrows
import Derived.Deep.AppendLies
import Derived.Maps.AppendAt
namespace Go.Proofs.YtabjpnggihginaaDoor
open Go.RowKit Go.Extern.Stop Go.Stop Go.Extern Go.Shelf
attribute [local go_sem] Oper.semAt_some

theorem infoS : (Tryd.prog.info? 9).map (fun i => (i.zero, i.size, i.bytes)) = some (some (.string ⟨#[]⟩), 1, 16) := by kernel_rfl
theorem info_parts {P : Program} {t : TypeId} {z : Value} {s b : Nat} (h : (P.info? t).map (fun i => (i.zero, i.size, i.bytes)) = some (some z, s, b)) : ∃ i, P.info? t = some i ∧ i.zero = some z ∧ i.size = s ∧ i.bytes = b := by
  cases hi : P.info? t with
  | none => rw [hi] at h; cases h
  | some i =>
    rw [hi] at h
    simp at h
    exact ⟨i, rfl, h.1, h.2.1, h.2.2⟩

def opRow (ns : List (Nat × Wr)) : List Value := ns.map fun x => .string x.2.op
/-- between two rounds: the slice l in its box (block h), its row among the blocks that are not the iterator's -/
def opI (h : Nat) (w : World) (E : Nat → Prop) (xs : List (Nat × Wr)) (W : World) : Prop :=
  ∃ oa cap, W.heap[h]? = some (.cells #[.slice oa xs.length cap] 33) ∧ W.ownsRow h 9 1 (.slice oa xs.length cap) xs.length (opRow xs) ∧ Below h w W ∧ ¬ E h ∧ (∀ g, Value.ownBlock (.slice oa xs.length cap) = some g → ¬ E g) ∧ (∀ k, E k → h ≤ k)

theorem opI_keep {h : Nat} {w : World} {E : Nat → Prop} {xs : List (Nat × Wr)} {W W' : World} (hI : opI h w E xs W) (hh : h ≤ W.heap.size) (hk : KeepX E W W') : opI h w (growE E W W') xs W' := by
  obtain ⟨oa, cap, h1, h2, h3, h4, h5, h6⟩ := hI
  have l1 := (Array.getElem?_eq_some_iff.1 h1).1
  refine ⟨oa, cap, (hk.block _ l1 h4).trans h1, ?_, h3.trans (hk.below hh h6), fun g => g.elim h4 (fun e => by omega), fun g hg e => ?_, fun k e => e.elim (h6 k) (fun e => by omega)⟩
  · refine ⟨h2.1, h2.2.imp id (fun ⟨g, c, cur, e1, e2, e3, e4⟩ => ⟨g, c, cur, e1, e2, (hk.block g (Array.getElem?_eq_some_iff.1 e3).1 (h5 g (by rw [e1]; rfl))).trans e3, e4⟩)⟩
  · have hl : g < W.heap.size := (h2.lt g hg).2
    exact e.elim (h5 g hg) (fun e => by omega)
theorem opI_put {h : Nat} {w : World} {E : Nat → Prop} {xs : List (Nat × Wr)} {W : World} {l : Nat} {o : Obj} (hI : opI h w E xs W) (hl : h < l) (ho : ∃ o', W.heap[l]? = some o' ∧ o'.isCells = false) : opI h w E xs (W.putObj l o) := by
  obtain ⟨oa, cap, h1, h2, h3, h4, h5, h6⟩ := hI
  obtain ⟨o', ho1, ho2⟩ := ho
  refine ⟨oa, cap, (World.putObj_heap_other (by omega)).trans h1, ?_, ?_, h4, h5, h6⟩
  · refine ⟨h2.1, h2.2.imp id (fun ⟨g, c, cur, e1, e2, e3, e4⟩ => ⟨g, c, cur, e1, e2, (World.putObj_heap_other (fun e => by subst e; rw [ho1] at e3; cases e3; cases ho2)).trans e3, e4⟩)⟩
  · have hg := grownBy_putObj' W l o
    have := (Array.getElem?_eq_some_iff.1 h1).1
    exact h3.grown hg (by omega) (fun k e => by cases e; omega)

/-- a row in another type's blocks is not met by a store -/
theorem row_setCell {W : World} {B n b : Nat} {v : Value} {xs : List Value} {t t' : TypeId} {k j : Nat} {arr : Array Value} (h : W.ownsRow B t k v n xs) (hb : W.heap[b]? = some (.cells arr t')) (hne : t ≠ t') (u : Value) : (W.setCell ⟨b, j, none⟩ u).ownsRow B t k v n xs := by
  refine ⟨h.1, h.2.imp id (fun ⟨g, c, cur, e1, e2, e3, e4⟩ => ⟨g, c, cur, e1, e2, ?_, e4⟩)⟩
  have hgb : g ≠ b := fun e => by subst e; rw [hb] at e3; cases e3; exact hne rfl
  rw [heap_setCell_ne' _ _ _ (show g ≠ b from hgb)]; exact e3
theorem own_row {w : World} {B k n m cap q : Nat} {e : TypeId} {oa : Option Addr} {xs : List Value} (h : w.ownsRow B e k (.slice oa n cap) m xs) (hq : Value.ownBlock (.slice oa n cap) = some q) : ∃ cur, w.heap[q]? = some (.cells cur e) := by
  rcases h.2 with ⟨hv, _⟩ | ⟨g, c, cur, hv, _, hcur, _⟩
  · obtain ⟨rfl, _, _⟩ := Value.slice.inj hv
    cases hq
  · obtain ⟨rfl, _, _⟩ := Value.slice.inj hv
    simp [Value.ownBlock] at hq
    subst hq
    exact ⟨cur, hcur⟩
theorem cell_one_new (w : World) (v : Value) (t : TypeId) : ∀ (j : Nat) u, [v][j]? = some u → (w.alloc (.cells #[v] t)).cell? ((⟨w.heap.size, 0, none⟩ : Addr).add j) = some u := by
  intro j u hj
  have : (⟨w.heap.size, 0, none⟩ : Addr).add j = ⟨w.heap.size, j, none⟩ := by unfold Addr.add; split <;> simp_all
  rw [this, World.cell?_alloc_new]
  simpa using hj

theorem ChnB.at {w : World} {b : Value} : ∀ {l : List (Nat × Wr)} {v : Value}, ChnB w b l v → ∀ x ∈ l, ∃ u, w.heap[x.1]? = some (.cells #[.string x.2.op, .string x.2.nm, .int .i64 x.2.pl, u] 57)
  | [], _, _, _, hx => by cases hx
  | (k, y) :: _, _, ⟨u, _, hk, hl⟩, x, hx => by
    rcases List.mem_cons.1 hx with rfl | h
    · exact ⟨u, hk⟩
    · exact hl.at x h
set_option maxRecDepth 20000 in
set_option maxHeartbeats 2000000 in
theorem ops_in (l : List Wr) (b0 : Value) (hB : Base b0) (v : Value) (w : World) (hc : Chn w b0 l v) (hT : ErrT w) (hl : l.length ≤ 1000000) :
    CallsIn Fence.wide 3 Tryd.prog 14 #[v] w fun e w' => ∃ oa cap, e = .returned (.slice oa l.length cap) ∧ w'.ownsRow w.heap.size 9 1 (.slice oa l.length cap) l.length (l.map fun x => .string x.op) ∧ Below w.heap.size w w' := by
  obtain ⟨ns, hns, hcb⟩ := hc.blocks
  have hnl : ns.length = l.length := by rw [← hns]; simp
  obtain ⟨tb, xb, eb⟩ := hB.iface
  obtain ⟨tv, yv, rfl⟩ : ∃ t y, v = .iface t y := by rw [eb] at hc; exact hc.iface
  have hlt := hcb.lt
  refine callsIn_of_wp_marks Tryd.func14 rfl trivial ?_
  simp only [Tryd.ntmps14, List.size_toArray, List.length_cons, List.length_nil, Nat.reduceAdd, Nat.reduceSub, Array.replicate_succ, Array.replicate_zero, List.push_toArray, List.append_toArray, List.nil_append, List.cons_append]
  have HC := Lib.hid hcb
  have HT := Lib.hid hT
  have HN := Lib.hid hns
  clear hc hcb hT hns eb
  gi_wp2
  refine ⟨trivial, (callsIn_wide.2 (chain_any tv yv _)).mono ?_⟩
  rintro e w' ⟨rfl, rfl⟩
  simp only [World.size_alloc]
  obtain ⟨W0, eW⟩ : ∃ W0, (w.alloc (.cells #[.slice none 0 0] 33)).alloc (.cells #[.iface tv yv] 27) = W0 := ⟨_, rfl⟩
  have hz0 : W0.heap.size = w.heap.size + 2 := by rw [← eW]; simp
  have hr0 : W0.heap[w.heap.size]? = some (.cells #[.slice none 0 0] 33) := by rw [← eW]; exact (Below.heap_alloc _ _ _ (by simp)).trans (World.alloc_heap_new _ _)
  have hr1 : W0.heap[w.heap.size + 1]? = some (.cells #[.iface tv yv] 27) := by rw [← eW]; have := World.alloc_heap_new (w.alloc (.cells #[.slice none 0 0] 33)) (.cells #[.iface tv yv] 27); simpa using this
  have hb0 : Below w.heap.size w W0 := by rw [← eW]; exact ((Below.refl _ _).alloc (Nat.le_refl _) _).alloc (by simp) _
  rw [eW]
  clear eW
  gi_wp2
  refine wp_rangeFunc_ghost (n := 2) (m := 1) (gf := 34) (lb := #[.pointer (some ⟨w.heap.size + 1, 0, none⟩)]) rfl (enters_of Tryd.func34 (by kernel_rfl) rfl)
    encW (fun _ => rfl) (fun k => k = w.heap.size + 1) (fun k => k < w.heap.size) (fun k h => by omega) (fun k h => by omega)
    (opI w.heap.size w) (fun _ _ _ => False) (fun xs => xs = ns) (fun pre x => ns[pre.length]? = some x)
    (fun E s A B hi _ hs hk => opI_keep hi (by omega) hk) (fun _ _ _ _ _ hi hl _ ho => opI_put hi (by omega) ho) (fun _ _ _ _ _ h => h.elim) (fun _ _ _ h => h.elim) ?start ?seq ?round ?done ?stop
  case start =>
    intro W hW
    refine ⟨none, 0, (hW.block _ (by omega)).trans hr0, World.ownsRow_nil _ _ _ _, hb0.trans (hW.mono (by omega)), by omega, (fun g h => by simp [Value.ownBlock] at h), fun k h => by omega⟩
  case seq =>
    intro l' J Jx W hW hJ hJd hJl hY hJ0
    exact chain1_in 2 b0 hB ns (.iface tv yv) w HC.out HT.out l' (w.heap.size + 1) (by omega) J Jx _ (fun _ => Iff.rfl) hJ hJd hJl hY W (fun k hk => (hW.block _ (by omega)).trans (hb0.block _ hk)) ((hW.block _ (by omega)).trans hr1) hJ0
  case stop =>
    intro _ _ _ _ h
    exact h.elim
  case done =>
    rintro D E xs W hS ⟨oa, cap, h1, h2, h3, h4, h5, h6⟩ hD hd
    have c1 : W.cell? ⟨w.heap.size, 0, none⟩ = some (.slice oa xs.length cap) := by rw [cell_of_row _ _ _ _ _ _ h1]; rfl
    subst hS
    have H2 := Lib.hid h2
    have H3 := Lib.hid h3
    clear h1 h2 h3 h4 h5 h6 hlt hr0 hr1 hb0
    gi_wp2
    refine ⟨by simp, .inl ⟨_, _, rfl, run_takeDeferred hd, ?_⟩⟩
    refine ⟨_, results_tmp rfl _ _ _, ?_⟩
    have hg := grownBy_putObj' W D (.deferred none)
    refine ⟨oa, cap, rfl, ?_, H3.out.grown hg H3.out.size (fun k e => by cases e; omega)⟩
    have h2 := H2.out
    rw [hnl] at h2
    have er : opRow xs = l.map fun x => .string x.op := by unfold opRow; rw [← HN.out, List.map_map]; rfl
    rw [er] at h2
    exact ⟨h2.1, h2.2.imp id (fun ⟨g, c, cur, e1, e2, e3, e4⟩ => ⟨g, c, cur, e1, e2, (World.putObj_heap_other (fun e => by subst e; rw [hd] at e3; cases e3)).trans e3, e4⟩)⟩
  case round =>
    rintro l' E pre x W hI hv hEl hl' hlo hnE K hK
    simp only [encW]
    gi_wp2
    refine hK _ _ (KeepsOthers.refl _) ?_
    clear hK
    intro o
    obtain ⟨u, hx0⟩ := HC.out.at x (List.mem_of_getElem? hv)
    have hxl := hlt x (List.mem_of_getElem? hv)
    obtain ⟨W2, eW2⟩ : ∃ W2, W.putObj l' o = W2 := ⟨_, rfl⟩
    have hI2 : opI w.heap.size w E pre W2 := by rw [← eW2]; exact opI_put hI (by omega) hlo
    have hs2 : W2.heap.size = W.heap.size := by rw [← eW2]; simp
    have hW2 : ∀ k, k ≠ l' → W2.heap[k]? = W.heap[k]? := fun k hk => by rw [← eW2]; exact World.putObj_heap_other hk
    rw [eW2]
    clear eW2 hI hlo
    obtain ⟨oa, cap, h1, h2, h3, h4, h5, h6⟩ := hI2
    have x2 : W2.heap[x.1]? = _ := (h3.block _ hxl).trans hx0
    have c1 : W2.cell? ⟨w.heap.size, 0, none⟩ = some (.slice oa pre.length cap) := by rw [cell_of_row _ _ _ _ _ _ h1]; rfl
    have c2 : W2.cell? ⟨x.1, 0, none⟩ = some (.string x.2.op) := by rw [cell_of_row _ _ _ _ _ _ x2]; rfl
    have hpl : pre.length < ns.length := (List.getElem?_eq_some_iff.1 hv).1
    gi_wp2
    have HI := Lib.hid (⟨h1, h2, h3, h4, h5, h6⟩ : W2.heap[w.heap.size]? = some (.cells #[.slice oa pre.length cap] 33) ∧ W2.ownsRow w.heap.size 9 1 (.slice oa pre.length cap) pre.length (opRow pre) ∧ Below w.heap.size w W2 ∧ ¬ E w.heap.size ∧ (∀ g, Value.ownBlock (.slice oa pre.length cap) = some g → ¬ E g) ∧ (∀ k, E k → w.heap.size ≤ k))
    have HW2 := Lib.hid hW2
    have HS2 := Lib.hid hs2
    have HX2 := Lib.hid x2
    clear h1 h2 h3 h4 h5 h6 hW2 hs2 x2 hr0 hr1 hb0 hx0
    obtain ⟨i0, hi, hz0, hz1, hz2⟩ := info_parts infoS
    refine wpIn_region_round_pop 7 (by kernel_rfl) (by kernel_rfl) (by rintro ⟨a, w, h⟩; exact h) (by kernel_rfl) rfl (by kernel_rfl) (by kernel_rfl) (by kernel_rfl) ?_
    simp only [List.take_succ_cons, List.take_zero]
    refine wpAny_of_held (S := fun w' => w'.cell? ⟨w.heap.size, 0, none⟩ = some (.slice oa pre.length cap) ∧ w'.cell? ⟨x.1, 0, none⟩ = some (.string x.2.op)) _ _ _ _ ?_
    have hHeld : W2.drew.cell? ⟨w.heap.size, 0, none⟩ = some (.slice oa pre.length cap) ∧ W2.drew.cell? ⟨x.1, 0, none⟩ = some (.string x.2.op) := ⟨c1, c2⟩
    refine wpAnyH_take (i := 0) (v := .slice oa pre.length cap) rfl (by kernel_rfl) (by kernel_rfl) (by kernel_rfl) (fun _ _ _ h => h) (Or.inl ⟨by rfl, fun w' hS => by obtain ⟨hS1, hS2⟩ := hS; go_simp⟩) hHeld ?_
    refine wpAnyH_take (i := 1) (v := .pointer (some ⟨x.1, 0, none⟩)) rfl (by kernel_rfl) (by kernel_rfl) (by kernel_rfl) (fun _ _ _ h => h) (Or.inl ⟨by rfl, fun w' _ => by go_simp⟩) hHeld ?_
    refine wpAnyH_take (i := 2) (v := .pointer (some ⟨x.1, 0, none⟩)) rfl (by kernel_rfl) (by kernel_rfl) (by kernel_rfl) (fun _ _ _ h => h) (Or.inl ⟨by rfl, fun w' _ => by go_simp⟩) hHeld ?_
    refine wpAnyH_take (i := 3) (v := .pointer (some ⟨x.1, 0, none⟩)) rfl (by kernel_rfl) (by kernel_rfl) (by kernel_rfl) (fun _ _ _ h => h) (Or.inl ⟨by rfl, fun w' _ => by go_simp⟩) hHeld ?_
    refine wpAnyH_take (i := 4) (v := .string x.2.op) rfl (by kernel_rfl) (by kernel_rfl) (by kernel_rfl) (fun _ _ _ h => h) (Or.inl ⟨by rfl, fun w' hS => by obtain ⟨hS1, hS2⟩ := hS; go_simp⟩) hHeld ?_
    refine wpAnyH_ready (rs := [5]) (by kernel_rfl) (by simp) ?_
    refine AllReadyH.cons rfl (fun K hK => ?_) AllReadyH.nil
    go_simp
    have hl1 : w.heap.size < W2.heap.size := (Array.getElem?_eq_some_iff.1 HI.out.1).1
    have hl2 : x.1 < W2.heap.size := (Array.getElem?_eq_some_iff.1 HX2.out).1
    refine hK.out _ _ ⟨(World.cell?_of_block (Below.heap_alloc _ _ _ hl1)).trans c1, (World.cell?_of_block (Below.heap_alloc _ _ _ hl2)).trans c2⟩ (fun hHeld => ?_)
    clear hK K
    refine wpAnyH_ready (rs := [6]) (by kernel_rfl) (by simp) ?_
    refine AllReadyH.cons rfl (fun K hK => ?_) AllReadyH.nil
    refine step_append_lies (w := (W2.alloc (.cells #[.string x.2.op] 9)).drew) (by rfl) (.tmp 8) (.tmp 13) 33 (by rfl) w.heap.size 9 i0 _ 1 16 Tryd.underlying33 hi hz0 hz1 hz2 rfl (by omega) (.slice oa pre.length cap) pre.length (opRow pre) (by rfl) (HI.out.2.1.alloc _)
      ⟨W2.heap.size, 0, none⟩ 1 1 [.string x.2.op] (by rfl) (by rfl) (fun j u hj => by rw [World.cell?_drew]; exact cell_one_new _ _ _ j u hj) (by simp [Value.oneCell']) (by omega) (by unfold maxLen; omega) (by omega) (by show w.heap.size ≤ (W2.alloc _).heap.size; rw [World.size_alloc]; omega) (W2.heap.size + 1) (by show (W2.alloc _).heap.size = _; rw [World.size_alloc]) ?_
    intro g cap' w1 hown hgrow hgl hgs
    have hg2 : (W2.alloc (.cells #[.string x.2.op] 9)).grownBy w1 (Value.ownBlock (.slice oa pre.length cap)) := ⟨hgrow.os, hgrow.tape, hgrow.output, hgrow.size, hgrow.block⟩
    obtain ⟨h1, h2, h3, h4, h5, h6⟩ := HI.out
    have hnb : ∀ k, Value.ownBlock (.slice oa pre.length cap) = some k → w.heap.size ≤ k ∧ k ≠ w.heap.size := by
      intro k hk
      refine ⟨(h2.lt k hk).1, fun e => ?_⟩
      obtain ⟨cur, hcur⟩ := own_row h2 hk
      subst e
      rw [h1] at hcur; cases hcur
    have hkeep : ∀ k, k < W2.heap.size → (∀ q, Value.ownBlock (.slice oa pre.length cap) = some q → k ≠ q) → w1.heap[k]? = W2.heap[k]? := fun k hk hq =>
      (hg2.block k (by rw [World.size_alloc]; omega) (fun e => hq k e.symm rfl)).trans (Below.heap_alloc _ _ _ hk)
    have r1 : w1.heap[w.heap.size]? = some (.cells #[.slice oa pre.length cap] 33) := (hkeep _ hl1 (fun q hq e => (hnb q hq).2 e.symm)).trans h1
    have rx : w1.heap[x.1]? = _ := (hkeep _ hl2 (fun q hq e => by have := (hnb q hq).1; omega)).trans HX2.out
    have d1 : w1.cell? ⟨w.heap.size, 0, none⟩ = some (.slice oa pre.length cap) := by rw [cell_of_row _ _ _ _ _ _ r1]; rfl
    have d2 : w1.cell? ⟨x.1, 0, none⟩ = some (.string x.2.op) := by rw [cell_of_row _ _ _ _ _ _ rx]; rfl
    have fz : w1.frozen? ⟨w.heap.size, 0, none⟩ = false := frozen_of_row _ _ _ _ _ r1
    refine hK.out _ _ ⟨d1, d2⟩ (fun hHeld => ?_)
    clear hK K
    refine wpAnyH_done (by kernel_rfl) ?_ _
    simp only [popQ]
    have hz1 : W2.heap.size + 1 ≤ w1.heap.size := by have := hg2.size; rw [World.size_alloc] at this; exact this
    have HH := Lib.hid (⟨hg2, h1, h2, h3, h4, h5, h6, hnb, hkeep, r1, hown, hgl, hl1, hl2, hz1⟩ : (W2.alloc (.cells #[.string x.2.op] 9)).grownBy w1 (Value.ownBlock (.slice oa pre.length cap)) ∧ _ ∧ _ ∧ _ ∧ _ ∧ _ ∧ _ ∧ _ ∧ _ ∧ _ ∧ _ ∧ _ ∧ _ ∧ _ ∧ _)
    clear hg2 h1 h2 h3 h4 h5 h6 hnb hkeep r1 rx hown hgl hgs hgrow hHeld d2 HI HX2 c1 c2 hz1 hl1 hl2
    go_simp
    obtain ⟨hg2, h1, h2, h3, h4, h5, h6, hnb, hkeep, r1, hown, hgl, hl1, hl2, hz1⟩ := HH.out
    have z2 := HS2.out
    refine ⟨?_, ?_, ?_⟩
    · refine ((KeepsOthers.alloc W2 _).trans (KeepsOthers.of_grownBy hg2 ?_)).trans (KeepsOthers.setCell _ _ _)
      intro j o' hj ho'
      obtain ⟨cur, hcur⟩ := own_row h2 hj
      rw [Below.heap_alloc _ _ _ (Array.getElem?_eq_some_iff.1 hcur).1, hcur] at ho'
      cases ho'; rfl
    · intro k hk
      have hkl : k < W2.heap.size := hk.elim (fun e => by have := hEl k e; omega) (fun e => by omega)
      have hkh : k ≠ w.heap.size := fun e => hk.elim (fun e' => h4 (e ▸ e')) (fun e' => by omega)
      have hkn : k ≠ l' := fun e => hk.elim (fun e' => hnE (e ▸ e')) (fun e' => by omega)
      exact (heap_setCell_ne' _ _ _ hkh).trans ((hkeep k hkl (fun q hq e => hk.elim (fun e' => h5 q hq (e ▸ e')) (fun e' => by have := (hnb q hq).1; omega))).trans (HW2.out k hkn))
    · have hlen : (pre ++ [x]).length = pre.length + 1 := by simp
      have hrow : opRow (pre ++ [x]) = opRow pre ++ [.string x.2.op] := by unfold opRow; simp
      have hbel : Below w.heap.size w w1 := h3.trans ⟨hg2.os, hg2.tape, hg2.output, by omega, fun k hk => hkeep k (by omega) (fun q hq e => by have := (hnb q hq).1; omega)⟩
      refine ⟨some ⟨g, 0, none⟩, cap', ?_, ?_, hbel.setCell (p := ⟨w.heap.size, 0, none⟩) (Nat.le_refl _) _, h4, ?_, h6⟩
      · rw [hlen]; exact heap_setCell_same _ _ 0 _ _ _ r1
      · rw [hlen, hrow]; exact row_setCell hown r1 (by decide) _
      · intro q hq
        simp [Value.ownBlock] at hq
        subst hq
        rcases hgl with e | e
        · exact h5 _ e
        · exact fun e' => by have := hEl _ e'; omega
end Go.Proofs.YtabjpnggihginaaDoor
