/- slices.AppendSeq of Split's segments; slices.Collect. -/
import Derived.Test.YtaonjbkkgeiniaaGreatDoorSgI
import Derived.Test.YtaonjbkkgeiniaaGreatDoorRegionIn
import Derived.OwnWalkIn
import Derived.Deep.AppendLies
namespace Go.Proofs.YtaonjbkkgeiniaaGreatDoor
open Go.RowKit Go.Shelf
attribute [local go_sem] Oper.semAt_some

theorem infoS : (Tryz.prog.info? 9).map (fun i => (i.zero, i.size, i.bytes)) = some (some (.string ⟨#[]⟩), 1, 16) := by kernel_rfl
theorem listIn_append_lies {F : Fence} {n : Nat} {P : Program} (w : World) {ops : Array Oper} {rest : List Oper} {o : Oper} {a : Act} {Q : Exit → Act → World → Prop}
    (hg : o.guard = none) (s x : Operand) (t : TypeId) (hop : o.op = Op.call { callee := Callee.builtin Builtin.append, args := #[s, x], argTypes := #[t, t] })
    (v v2 : Value) (hs : a.eval s = v) (hx : a.eval x = v2) (R : Value → World → Prop) (hrun : ∃ v' w', (Builtin.append_ #[t, t] o.type #[v, v2]).run P w = .ok v' w' ∧ R v' w')
    (hK : ∀ v' w', R v' w' → wpListIn F n P ops Q rest (a.put o.dst v') w') : wpListIn F n P ops Q (o :: rest) a w := by
  refine wpListIn_plain hg fun K hK' => ?_
  obtain ⟨v', w', hr, r1⟩ := hrun
  unfold Oper.wpIn
  refine ⟨?_, ?_⟩
  · simp [Oper.about, hop, resolve, Target.leads, Sem.run_pure]
  · rw [Oper.semAt_plain F _ _ (by rw [hop]; intro c hc'; cases hc')]
    simp [execOp, hop, resolve, invoke, builtin, hs, hx, hr, Result.andThen]
    exact hK' _ _ (hK v' w' r1)
theorem heap_setCell_ne' (w : World) (p : Addr) (v : Value) {k : Nat} (h : k ≠ p.block) : (w.setCell p v).heap[k]? = w.heap[k]? := by
  show (w.heap.modify p.block _)[k]? = _
  rw [Array.getElem?_modify]
  simp [h.symm]
theorem own_row {w : World} {B k n m cap q : Nat} {e : TypeId} {oa : Option Addr} {xs : List Value} (h : w.ownsRow B e k (.slice oa n cap) m xs) (hq : Value.ownBlock (.slice oa n cap) = some q) : ∃ cur, w.heap[q]? = some (.cells cur e) := by
  rcases h.2 with ⟨hv, _⟩ | ⟨g, c, cur, hv, _, hcur, _⟩
  · obtain ⟨rfl, _, _⟩ := Value.slice.inj hv
    cases hq
  · obtain ⟨rfl, _, _⟩ := Value.slice.inj hv
    simp [Value.ownBlock] at hq
    subst hq
    exact ⟨cur, hcur⟩
/-- a row in another type's blocks is not met by a store -/
theorem row_setCell {W : World} {B n b : Nat} {v : Value} {xs : List Value} {t t' : TypeId} {k j : Nat} {arr : Array Value} (h : W.ownsRow B t k v n xs) (hb : W.heap[b]? = some (.cells arr t')) (hne : t ≠ t') (u : Value) : (W.setCell ⟨b, j, none⟩ u).ownsRow B t k v n xs := by
  refine ⟨h.1, h.2.imp id (fun ⟨g, c, cur, e1, e2, e3, e4⟩ => ⟨g, c, cur, e1, e2, ?_, e4⟩)⟩
  have hgb : g ≠ b := fun e => by subst e; rw [hb] at e3; cases e3; exact hne rfl
  rw [heap_setCell_ne' _ _ _ (show g ≠ b from hgb)]; exact e3
theorem cell_one_new (w : World) (v : Value) (t : TypeId) : ∀ (j : Nat) u, [v][j]? = some u → (w.alloc (.cells #[v] t)).cell? ((⟨w.heap.size, 0, none⟩ : Addr).add j) = some u := by
  intro j u hj
  rw [Go.WideShapes.add_plain, World.cell?_alloc_new, Nat.zero_add]
  simpa using hj
def stRow (xs : List ByteArray) : List Value := xs.map Value.string
theorem stRow_len (xs : List ByteArray) : (stRow xs).length = xs.length := by unfold stRow; simp
/-- between two rounds: the slice in its box (block h), its row among the blocks that are not the iterator's -/
def csI (h : Nat) (w : World) (E : Nat → Prop) (xs : List ByteArray) (W : World) : Prop :=
  ∃ oa cap, W.heap[h]? = some (.cells #[.slice oa xs.length cap] 23) ∧ W.ownsRow h 9 1 (.slice oa xs.length cap) xs.length (stRow xs) ∧ Below h w W ∧ ¬ E h ∧ (∀ g, Value.ownBlock (.slice oa xs.length cap) = some g → ¬ E g) ∧ (∀ k, E k → h ≤ k)
theorem csI_keep {h : Nat} {w : World} {E : Nat → Prop} {xs : List ByteArray} {W W' : World} (hI : csI h w E xs W) (hk : KeepX E W W') : csI h w (growE E W W') xs W' := by
  obtain ⟨oa, cap, h1, h2, h3, h4, h5, h6⟩ := hI
  have l1 := (Array.getElem?_eq_some_iff.1 h1).1
  refine ⟨oa, cap, (hk.block _ l1 h4).trans h1, ?_, h3.trans ⟨hk.os, hk.tape, hk.output, hk.size, fun k hk' => hk.block k (by omega) (fun e => by have := h6 k e; omega)⟩, fun g => g.elim h4 (fun e => by omega), fun g hg e => ?_, fun k e => e.elim (h6 k) (fun e => by omega)⟩
  · refine ⟨h2.1, h2.2.imp id (fun ⟨g, c, cur, e1, e2, e3, e4⟩ => ⟨g, c, cur, e1, e2, (hk.block g (Array.getElem?_eq_some_iff.1 e3).1 (h5 g (by rw [e1]; rfl))).trans e3, e4⟩)⟩
  · have hl : g < W.heap.size := (h2.lt g hg).2
    exact e.elim (h5 g hg) (fun e => by omega)
theorem csI_put {h : Nat} {w : World} {E : Nat → Prop} {xs : List ByteArray} {W : World} {l : Nat} {o : Obj} (hI : csI h w E xs W) (hl : h < l) (ho : ∃ o', W.heap[l]? = some o' ∧ o'.isCells = false) : csI h w E xs (W.putObj l o) := by
  obtain ⟨oa, cap, h1, h2, h3, h4, h5, h6⟩ := hI
  obtain ⟨o', ho1, ho2⟩ := ho
  refine ⟨oa, cap, (World.putObj_heap_other (by omega)).trans h1, ?_, ?_, h4, h5, h6⟩
  · refine ⟨h2.1, h2.2.imp id (fun ⟨g, c, cur, e1, e2, e3, e4⟩ => ⟨g, c, cur, e1, e2, (World.putObj_heap_other (fun e => by subst e; rw [ho1] at e3; cases e3; cases ho2)).trans e3, e4⟩)⟩
  · have hg := grownBy_putObj' W l o
    have := (Array.getElem?_eq_some_iff.1 h1).1
    exact h3.grown hg (by omega) (fun k e => by cases e; omega)

set_option maxRecDepth 100000 in
set_option maxHeartbeats 4000000 in
theorem appseq_in (f len cap most : Nat) (oa : Option Addr) (z : List ByteArray) (hm : 64 ≤ most ∧ most ≤ 65536) (b c : Nat) (w : World)
    (hb0 : w.heap[b]? = some (.cells #[.int .i64 f] 2)) (hb1 : w.heap[b + 1]? = some (.cells #[.slice oa len cap] 23)) (hb2 : w.heap[b + 2]? = some (.cells #[.func (.func 49) #[] #[.pointer (some ⟨c, 0, none⟩)]] 82)) (hc : w.heap[c]? = some (.cells #[.int .i64 most] 3))
    (hz : StrsIn w oa len cap z) (hf : f + len ≤ 1048576) (hp : ∀ p ∈ z, payOk p.data.toList) (hml : (spB most f z).length ≤ 2000000) :
    CallsIn Fence.wide 3 Tryz.prog 82 #[.slice none 0 0, .func (.func 77) #[] #[.pointer (some ⟨b, 0, none⟩), .pointer (some ⟨b + 1, 0, none⟩), .pointer (some ⟨b + 2, 0, none⟩)]] w
      fun e w' => ∃ oa' cap', e = .returned (.slice oa' (spB most f z).length cap') ∧ w'.ownsRow w.heap.size 9 1 (.slice oa' (spB most f z).length cap') (spB most f z).length (stRow (spB most f z)) ∧ Below w.heap.size w w' := by
  refine callsIn_of_wp_marks Tryz.func82 rfl trivial ?_
  simp only [Tryz.ntmps82, List.size_toArray, List.length_cons, List.length_nil, Nat.reduceAdd, Nat.reduceSub, Array.replicate_succ, Array.replicate_zero, List.push_toArray, List.append_toArray, List.nil_append, List.cons_append]
  have lb2 := (Array.getElem?_eq_some_iff.1 hb2).1
  have lc := (Array.getElem?_eq_some_iff.1 hc).1
  have hzb : ∀ bb off, oa = some ⟨bb, off, none⟩ → len ≠ 0 → bb < w.heap.size := by
    intro bb off e hne
    rcases hz.2.2.2.2 with h | ⟨b', off', e', hl, _⟩
    · exact absurd h hne
    · rw [e] at e'; cases e'; exact hl
  obtain ⟨X, hX⟩ : ∃ X, spB most f z = X := ⟨_, rfl⟩
  rw [hX] at hml ⊢
  have HX := Lib.hid hX
  have HBS := Lib.hid (⟨hb0, hb1, hb2, hc, hz, hp, hzb⟩ : w.heap[b]? = some (.cells #[.int .i64 f] 2) ∧ w.heap[b + 1]? = some (.cells #[.slice oa len cap] 23) ∧ w.heap[b + 2]? = some (.cells #[.func (.func 49) #[] #[.pointer (some ⟨c, 0, none⟩)]] 82) ∧ w.heap[c]? = some (.cells #[.int .i64 most] 3) ∧ StrsIn w oa len cap z ∧ (∀ p ∈ z, payOk p.data.toList) ∧ ∀ bb off, oa = some ⟨bb, off, none⟩ → len ≠ 0 → bb < w.heap.size)
  clear hb0 hb1 hb2 hc hz hp hzb hX
  gi_wp2
  obtain ⟨W0, eW⟩ : ∃ W0, w.alloc (.cells #[.slice none 0 0] 23) = W0 := ⟨_, rfl⟩
  have hz0 : W0.heap.size = w.heap.size + 1 := by rw [← eW]; simp
  have hr0 : W0.heap[w.heap.size]? = some (.cells #[.slice none 0 0] 23) := by rw [← eW]; exact World.alloc_heap_new _ _
  have hbW : Below w.heap.size w W0 := by rw [← eW]; exact (Below.refl _ _).alloc (Nat.le_refl _) _
  rw [eW]
  clear eW
  refine wp_rangeFunc_ghost (n := 2) (m := 1) (gf := 77) (lb := #[.pointer (some ⟨b, 0, none⟩), .pointer (some ⟨b + 1, 0, none⟩), .pointer (some ⟨b + 2, 0, none⟩)]) rfl (enters_of Tryz.func77 (by kernel_rfl) rfl)
    encS (fun _ => rfl) (fun _ => False) (fun k => k < w.heap.size) (fun k h => h.elim) (fun k h => by omega)
    (csI w.heap.size w) (fun _ _ _ => False) (fun xs => xs = X) (fun pre x => X[pre.length]? = some x)
    (fun E s A B hi _ _ hk => csI_keep hi hk) (fun _ _ _ _ _ hi hl _ ho => csI_put hi (by omega) ho) (fun _ _ _ _ _ h => h.elim) (fun _ _ _ h => h.elim) ?start ?seq ?round ?done ?stop
  case start =>
    intro W hW
    exact ⟨none, 0, (hW.block _ (by omega)).trans hr0, World.ownsRow_nil _ _ _ _, hbW.trans (hW.mono (by omega)), fun h => h, (fun g h => by simp [Value.ownBlock] at h), fun k h => h.elim⟩
  case seq =>
    intro l' J Jx W hW hJ hJd hJl hY hJ0
    obtain ⟨hb0, hb1, hb2, hc, hz, hp, hzb⟩ := HBS.out
    have hs := segsS_in 2 f len cap most oa z hm l' b c w.heap.size w J Jx hJ (fun E pre x W1 hx hj => hY E pre x W1 (by rw [← HX.out]; exact hx) hj) hb0 hb1 hb2 hc hz hzb (by omega) lc (Nat.le_refl _) hf hp W (fun k hk => (hW.block _ (by omega)).trans (hbW.block _ hk)) (by have := hW.size; omega) hJ0
    rw [HX.out] at hs
    exact hs
  case stop =>
    intro _ _ _ _ h
    exact h.elim
  case done =>
    rintro D E xs W hS ⟨oa', cap', h1, h2, h3, h4, h5, h6⟩ hD hd
    have c1 : W.cell? ⟨w.heap.size, 0, none⟩ = some (.slice oa' xs.length cap') := by rw [cell_of_row _ _ _ _ _ _ h1]; rfl
    subst hS
    have H2 := Lib.hid h2
    have H3 := Lib.hid h3
    clear h1 h2 h3 h4 h5 h6 hr0 hbW HBS HX
    gi_wp2
    refine ⟨by simp, .inl ⟨_, _, rfl, run_takeDeferred hd, ?_⟩⟩
    refine ⟨_, results_tmp rfl _ _ _, ?_⟩
    have hg := grownBy_putObj' W D (.deferred none)
    refine ⟨oa', cap', rfl, ?_, H3.out.grown hg H3.out.size (fun k e => by cases e; omega)⟩
    have h2 := H2.out
    exact ⟨h2.1, h2.2.imp id (fun ⟨g, c, cur, e1, e2, e3, e4⟩ => ⟨g, c, cur, e1, e2, (World.putObj_heap_other (fun e => by subst e; rw [hd] at e3; cases e3)).trans e3, e4⟩)⟩
  case round =>
    rintro l' E pre x W hI hv hEl hl' hlo hnE K hK
    simp only [encS]
    gi_wp2
    refine hK _ _ (KeepsOthers.refl _) ?_
    clear hK
    intro o
    obtain ⟨W2, eW2⟩ : ∃ W2, W.putObj l' o = W2 := ⟨_, rfl⟩
    have hI2 : csI w.heap.size w E pre W2 := by rw [← eW2]; exact csI_put hI (by omega) hlo
    have hs2 : W2.heap.size = W.heap.size := by rw [← eW2]; simp
    have hW2 : ∀ k, k ≠ l' → W2.heap[k]? = W.heap[k]? := fun k hk => by rw [← eW2]; exact World.putObj_heap_other hk
    rw [eW2]
    clear eW2 hI hlo
    obtain ⟨oa', cap', h1, h2, h3, h4, h5, h6⟩ := hI2
    have c1 : W2.cell? ⟨w.heap.size, 0, none⟩ = some (.slice oa' pre.length cap') := by rw [cell_of_row _ _ _ _ _ _ h1]; rfl
    have hpl : pre.length < X.length := (List.getElem?_eq_some_iff.1 hv).1
    have hl1 : w.heap.size < W2.heap.size := (Array.getElem?_eq_some_iff.1 h1).1
    have hrun : ∃ v' w', (Builtin.append_ #[23, 23] 23 #[.slice oa' pre.length cap', .slice (some ⟨W2.heap.size, 0, none⟩) 1 1]).run Tryz.prog (W2.alloc (.cells #[.string x] 9)) = .ok v' w' ∧
        (∃ g cap2, v' = .slice (some ⟨g, 0, none⟩) (pre.length + 1) cap2 ∧ w'.ownsRow w.heap.size 9 1 (.slice (some ⟨g, 0, none⟩) (pre.length + 1) cap2) (pre.length + 1) (stRow pre ++ [.string x]) ∧ (W2.alloc (.cells #[.string x] 9)).grownBy w' (Value.ownBlock (.slice oa' pre.length cap')) ∧
          (Value.ownBlock (.slice oa' pre.length cap') = some g ∨ g = W2.heap.size + 1) ∧ g < w'.heap.size) := by
      obtain ⟨i0, hi, hz0, hz1, hz2⟩ := info_parts infoS
      obtain ⟨g, cap2, w', r1, r2, r3, r4, r5⟩ := run_append_lies (P := Tryz.prog) (W2.alloc (.cells #[.string x] 9)) 23 23 w.heap.size 9 i0 _ 1 16 Tryz.underlying23 hi hz0 hz1 hz2 rfl (by omega) (.slice oa' pre.length cap') pre.length (stRow pre) (h2.alloc _)
        ⟨W2.heap.size, 0, none⟩ 1 1 [.string x] rfl (cell_one_new _ _ _) (by simp [Value.oneCell']) (by omega) (by unfold maxLen; omega) (by omega) (by rw [World.size_alloc]; omega) (W2.heap.size + 1) (by rw [World.size_alloc])
      exact ⟨_, w', r1, g, cap2, rfl, r2, r3, r4, r5⟩
    have HRUN := Lib.hid hrun
    have HI := Lib.hid (⟨h1, h2, h3, h4, h5, h6⟩ : W2.heap[w.heap.size]? = some (.cells #[.slice oa' pre.length cap'] 23) ∧ W2.ownsRow w.heap.size 9 1 (.slice oa' pre.length cap') pre.length (stRow pre) ∧ Below w.heap.size w W2 ∧ ¬ E w.heap.size ∧ (∀ g, Value.ownBlock (.slice oa' pre.length cap') = some g → ¬ E g) ∧ (∀ k, E k → w.heap.size ≤ k))
    have HW2 := Lib.hid hW2
    have HS2 := Lib.hid hs2
    clear h1 h2 h3 h4 h5 h6 hW2 hs2 hr0 hbW hrun HBS HX hv
    gi_wp2_with (gi_at_builtin; refine listIn_append_lies _ rfl (.tmp 8) (.tmp 10) 23 rfl _ _ rfl rfl _ HRUN.out ?_)
    rintro v' w1 g cap2 rfl hown hg2 hgl hgs
    obtain ⟨h1, h2, h3, h4, h5, h6⟩ := HI.out
    have hnb : ∀ k, Value.ownBlock (.slice oa' pre.length cap') = some k → w.heap.size ≤ k ∧ k ≠ w.heap.size := by
      intro k hk
      refine ⟨(h2.lt k hk).1, fun e => ?_⟩
      obtain ⟨cur, hcur⟩ := own_row h2 hk
      subst e
      rw [h1] at hcur; cases hcur
    have hkeep : ∀ k, k < W2.heap.size → (∀ q, Value.ownBlock (.slice oa' pre.length cap') = some q → k ≠ q) → w1.heap[k]? = W2.heap[k]? := fun k hk hq =>
      (hg2.block k (by rw [World.size_alloc]; omega) (fun e => hq k e.symm rfl)).trans (Below.heap_alloc _ _ _ hk)
    have r1 : w1.heap[w.heap.size]? = some (.cells #[.slice oa' pre.length cap'] 23) := (hkeep _ hl1 (fun q hq e => (hnb q hq).2 e.symm)).trans h1
    have d1 : w1.cell? ⟨w.heap.size, 0, none⟩ = some (.slice oa' pre.length cap') := by rw [cell_of_row _ _ _ _ _ _ r1]; rfl
    have fz : w1.frozen? ⟨w.heap.size, 0, none⟩ = false := frozen_of_row _ _ _ _ _ r1
    have hz1 : W2.heap.size + 1 ≤ w1.heap.size := by have := hg2.size; rw [World.size_alloc] at this; exact this
    have HH := Lib.hid (⟨hg2, h1, h2, h3, h4, h5, h6, hnb, hkeep, r1, hown, hgl, hz1⟩ : (W2.alloc (.cells #[.string x] 9)).grownBy w1 (Value.ownBlock (.slice oa' pre.length cap')) ∧ _ ∧ _ ∧ _ ∧ _ ∧ _ ∧ _ ∧ _ ∧ _ ∧ _ ∧ _ ∧ _ ∧ _)
    clear hg2 h1 h2 h3 h4 h5 h6 hnb hkeep r1 hown hgl hgs HI c1 HRUN
    gi_wp2
    obtain ⟨hg2, h1, h2, h3, h4, h5, h6, hnb, hkeep, r1, hown, hgl, hz1⟩ := HH.out
    have z2 := HS2.out
    refine ⟨?_, ?_, ?_⟩
    · refine ((KeepsOthers.alloc W2 _).trans (KeepsOthers.of_grownBy hg2 ?_)).trans (KeepsOthers.setCell _ _ _)
      intro j o' hj ho'
      obtain ⟨cur, hcur⟩ := own_row h2 hj
      rw [Below.heap_alloc _ _ _ (Array.getElem?_eq_some_iff.1 hcur).1, hcur] at ho'
      cases ho'; rfl
    · intro k hk
      have hkl : k < W2.heap.size := hk.elim (fun e => by have := hEl k e; omega) (fun e => by omega)
      have hkh : k ≠ w.heap.size := fun e => hk.elim (fun e' => h4 (e ▸ e')) (fun e' => by omega)
      have hkn : k ≠ l' := fun e => hk.elim (fun e' => hnE (e ▸ e')) (fun e' => by omega)
      exact (heap_setCell_ne' _ _ _ hkh).trans ((hkeep k hkl (fun q hq e => hk.elim (fun e' => h5 q hq (e ▸ e')) (fun e' => by have := (hnb q hq).1; omega))).trans (HW2.out k hkn))
    · have hlen : (pre ++ [x]).length = pre.length + 1 := by simp
      have hrow : stRow (pre ++ [x]) = stRow pre ++ [.string x] := by unfold stRow; simp
      have hbel : Below w.heap.size w w1 := h3.trans ⟨hg2.os, hg2.tape, hg2.output, by omega, fun k hk => hkeep k (by omega) (fun q hq e => by have := (hnb q hq).1; omega)⟩
      refine ⟨some ⟨g, 0, none⟩, cap2, ?_, ?_, hbel.setCell (p := ⟨w.heap.size, 0, none⟩) (Nat.le_refl _) _, h4, ?_, h6⟩
      · rw [hlen]; exact heap_setCell_same _ _ 0 _ _ _ r1
      · rw [hlen, hrow]; exact row_setCell hown r1 (by decide) _
      · intro q hq
        simp [Value.ownBlock] at hq
        subst hq
        rcases hgl with e | e
        · exact h5 _ e
        · exact fun e' => by have := hEl _ e'; omega
end Go.Proofs.YtaonjbkkgeiniaaGreatDoor
