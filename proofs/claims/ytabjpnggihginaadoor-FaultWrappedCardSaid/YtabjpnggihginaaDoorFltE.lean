/- fault.chain: the iterator over what an error was wrapped with. -/
import Derived.Test.YtabjpnggihginaaDoorFltD
import Derived.Sort.LoopGhostIn
import Derived.WalkKit
import Derived.OwnWalkIn
import Derived.TacticsInMore
import Derived.LoopNIn
import Derived.LoopIn
import Derived.Shelf.Abstract
import Derived.Shelf.RegionOpen
namespace Go.Proofs.YtabjpnggihginaaDoor
open Go.RowKit Go.Extern.Stop Go.Stop Go.Extern Go.Shelf
attribute [local go_sem] Oper.semAt_some

/-- a chain, with the blocks in which it lies -/
def ChnB (w : World) (b : Value) : List (Nat × Wr) → Value → Prop
  | [], v => v = b
  | (k, x) :: l, v => ∃ u, v = .iface 55 (.pointer (some ⟨k, 0, none⟩)) ∧ w.heap[k]? = some (.cells #[.string x.op, .string x.nm, .int .i64 x.pl, u] 57) ∧ ChnB w b l u
theorem Chn.blocks {w : World} {b : Value} : ∀ {l : List Wr} {v : Value}, Chn w b l v → ∃ ns : List (Nat × Wr), ns.map (·.2) = l ∧ ChnB w b ns v
  | [], _, h => ⟨[], rfl, h⟩
  | x :: _, _, ⟨k, u, e, hk, hl⟩ => by
    obtain ⟨ns, e1, h1⟩ := hl.blocks
    exact ⟨(k, x) :: ns, by simp [e1], u, e, hk, h1⟩
theorem ChnB.iface {w : World} {T : TypeId} {x : Value} : ∀ {l : List (Nat × Wr)} {v : Value}, ChnB w (.iface T x) l v → ∃ t y, v = .iface t y
  | [], _, h => ⟨_, _, h⟩
  | (_, _) :: _, _, ⟨_, e, _⟩ => ⟨_, _, e⟩
theorem ChnB.lt {w : World} {b : Value} : ∀ {l : List (Nat × Wr)} {v : Value}, ChnB w b l v → ∀ x ∈ l, x.1 < w.heap.size
  | [], _, _, _, hx => by cases hx
  | (k, y) :: _, _, ⟨_, _, hk, hl⟩, x, hx => by
    rcases List.mem_cons.1 hx with rfl | h
    · exact (Array.getElem?_eq_some_iff.1 hk).1
    · exact hl.lt x h

/-- what may stand innermost -/
def Base (b : Value) : Prop := (∃ n, b = .iface 23 (.int .i64 n)) ∨ b = .iface 44 (.agg #[])
theorem Base.iface {b : Value} (h : Base b) : ∃ t x, b = .iface t x := by rcases h with ⟨n, rfl⟩ | rfl <;> exact ⟨_, _, rfl⟩

theorem ErrT.of_heap {w w' : World} (h : ErrT w) (e : w'.heap[1]? = w.heap[1]?) : ErrT w' := by
  unfold ErrT World.cell? at *
  simp only [e]
  exact h
theorem As_base (b : Value) (tb : Nat) (o0 : Value) (w : World) (hb : Base b) (he : ErrT w) (ht : w.heap[tb]? = some (.cells #[o0] 55)) :
    Calls Tryd.prog 28 #[b, .iface 70 (.pointer (some ⟨tb, 0, none⟩))] w fun e w' => e = .returned (.bool false) ∧ Below w.heap.size w w' := by
  rcases hb with ⟨n, rfl⟩ | rfl
  · exact As_ptrN n tb o0 w he ht
  · exact As_ptrO tb o0 w he ht

theorem chain_any (t : TypeId) (y : Value) (w : World) :
    Calls Tryd.prog 27 #[.iface t y] w fun e w' => e = .returned (.func (.func 34) #[] #[.pointer (some ⟨w.heap.size, 0, none⟩)]) ∧ w.alloc (.cells #[.iface t y] 27) = w' := by
  go_enter Tryd.func27, Tryd.ntmps27
  go_wp2_with fail
  go_ret
  exact ⟨rfl, rfl⟩

theorem heap_setCell_ne' (w : World) (p : Addr) (v : Value) {k : Nat} (h : k ≠ p.block) : (w.setCell p v).heap[k]? = w.heap[k]? := by
  show (w.heap.modify p.block _)[k]? = _
  rw [Array.getElem?_modify]
  simp [h.symm]
def encW (x : Nat × Wr) : Array Value := #[.pointer (some ⟨x.1, 0, none⟩)]

set_option maxRecDepth 20000 in
set_option maxHeartbeats 2000000 in
theorem chain1_in (n : Nat) (b0 : Value) (hB : Base b0) (ns : List (Nat × Wr)) (v0 : Value) (w : World) (hc : ChnB w b0 ns v0) (hT : ErrT w) (l b : Nat) (hbw : w.heap.size ≤ b)
    (J : (Nat → Prop) → List (Nat × Wr) → World → Prop) (Jx : World → Prop) (E0 : Nat → Prop) (hE0 : ∀ k, E0 k ↔ k = b)
    (hJ : ∀ E s A B, J E s A → KeepX E A B → J (growE E A B) s B) (_hJd : ∀ A, Jx A → Jx A.drew) (_hJl : ∀ E s A, J E s A → ∀ k, E k → k < A.heap.size)
    (hY : ∀ E pre x W1, ns[pre.length]? = some x → J E pre W1 → YieldAt Fence.wide (n - 1) Tryd.prog l (encW x) W1 fun e W' => (e = .returned (.bool true) ∧ J E (pre ++ [x]) W' ∧ (∀ k, E k ∨ k < w.heap.size → W'.heap[k]? = W1.heap[k]?)) ∨ (e = .returned (.bool false) ∧ Jx W'))
    (W : World) (hW : ∀ k, k < w.heap.size → W.heap[k]? = w.heap[k]?) (h0 : W.heap[b]? = some (.cells #[v0] 27)) (hJ0 : J E0 [] W) :
    CallsIn Fence.wide n Tryd.prog 34 #[.func (.yield l) #[] #[], .pointer (some ⟨b, 0, none⟩)] W fun e W' => (∃ v, e = .returned v) ∧ ((∃ E xs, xs = ns ∧ J E xs W') ∨ Jx W') := by
  refine callsIn_of_wp Tryd.func34 rfl trivial ?_
  simp only [Tryd.ntmps34, List.size_toArray, List.length_cons, List.length_nil, Nat.reduceAdd, Nat.reduceSub, Array.replicate_succ, Array.replicate_zero, List.push_toArray, List.append_toArray, List.nil_append, List.cons_append]
  obtain ⟨W0, eW⟩ : ∃ W0, W.alloc (.cells #[.pointer none] 55) = W0 := ⟨_, rfl⟩
  have hlb := (Array.getElem?_eq_some_iff.1 h0).1
  have e0 : W0.heap[b]? = some (.cells #[v0] 27) := by rw [← eW]; exact (Below.heap_alloc _ _ _ hlb).trans h0
  have e1 : W0.heap[W.heap.size]? = some (.cells #[.pointer none] 55) := by rw [← eW]; exact World.alloc_heap_new _ _
  have e2 : J (growE E0 W W0) [] W0 := hJ _ _ _ _ hJ0 (KeepX.of_below (by rw [← eW]; exact (Below.refl _ _).alloc (Nat.le_refl _) _))
  have e3 : ∀ k, k < w.heap.size → W0.heap[k]? = w.heap[k]? := fun k hk => by rw [← eW]; exact (Below.heap_alloc _ _ _ (by omega)).trans (hW k hk)
  have e4 : growE E0 W W0 b := .inl ((hE0 b).2 rfl)
  have e5 : growE E0 W W0 W.heap.size := .inr ⟨Nat.le_refl _, by rw [← eW]; simp⟩
  have e6 : ∀ k, growE E0 W W0 k → w.heap.size ≤ k := fun k hk => hk.elim (fun e => by have := (hE0 k).1 e; omega) (fun e => by omega)
  have H := Lib.hid (show ∃ E pre rest v, ns = pre ++ rest ∧ ChnB w b0 rest v ∧ J E pre W0 ∧ E b ∧ E W.heap.size ∧ (∀ k, E k → w.heap.size ≤ k) ∧ (∃ x, W0.heap[W.heap.size]? = some (.cells #[x] 55)) ∧ W0.heap[b]? = some (.cells #[v] 27) ∧ (∀ k, k < w.heap.size → W0.heap[k]? = w.heap[k]?) ∧ rest.length = ns.length from
    ⟨_, [], ns, v0, rfl, hc, e2, e4, e5, e6, ⟨_, e1⟩, e0, e3, rfl⟩)
  have HT := Lib.hid hT
  have hlt0 : W.heap.size ≠ b := by omega
  clear e0 e1 e2 e3 e4 e5 e6 hc hT h0 hW hJ0 hlb
  gi_wp2
  gi_loopg [] ns.length (fun k wr => ∃ E pre rest v, ns = pre ++ rest ∧ ChnB w b0 rest v ∧ J E pre wr ∧ E b ∧ E W.heap.size ∧ (∀ k, E k → w.heap.size ≤ k) ∧ (∃ x, wr.heap[W.heap.size]? = some (.cells #[x] 55)) ∧ wr.heap[b]? = some (.cells #[v] 27) ∧ (∀ k, k < w.heap.size → wr.heap[k]? = w.heap[k]?) ∧ rest.length = k)
  case atStart => exact H.out
  case round =>
    obtain ⟨E, pre, rest, v, hns, hc, hj, hEb, hEe, hEl, ⟨x0, hbe⟩, hvb, hag, hrl⟩ := hrel
    have hTr : ErrT wr := HT.out.of_heap (hag _ HT.out.lt)
    clear H
    have cb : wr.cell? ⟨b, 0, none⟩ = some v := by rw [cell_of_row _ _ _ _ _ _ hvb]; rfl
    cases rest with
    | nil =>
      obtain rfl := hc
      have HA := Lib.hid (As_base v W.heap.size x0 wr hB hTr hbe)
      obtain ⟨t, y, rfl⟩ := hB.iface
      have HJ := Lib.hid hj
      have HN := Lib.hid hns
      clear hj hns hrl hEb hEe hEl hag hTr hbe hvb hB
      gi_wp2
      refine ⟨trivial, (fun h => by cases h), (callsIn_wide.2 HA.out).mono ?_⟩
      rintro e w1 ⟨rfl, hb⟩
      have HJ1 := Lib.hid (hJ _ _ _ _ HJ.out (KeepX.of_below hb))
      clear HA hb
      gi_wp2
      go_end0
      exact ⟨⟨_, rfl⟩, .inl ⟨_, _, by rw [HN.out, List.append_nil], HJ1.out⟩⟩
    | cons x rest =>
      obtain ⟨k, x⟩ := x
      obtain ⟨u, rfl, hk, hr⟩ := hc
      obtain ⟨tb, xb, eb⟩ := hB.iface
      obtain ⟨tu, yu, rfl⟩ : ∃ t y, u = .iface t y := by rw [eb] at hr; exact hr.iface
      have HA := Lib.hid (As_ptr ⟨k, 0, none⟩ W.heap.size x0 wr hTr hbe)
      have hkl := (Array.getElem?_eq_some_iff.1 hk).1
      have HS := Lib.hid (⟨hj, hns, hrl, hEb, hEe, hEl, hag, hvb, hk, hr⟩ : J E pre wr ∧ ns = pre ++ (k, x) :: rest ∧ ((k, x) :: rest).length = gk ∧ E b ∧ E W.heap.size ∧ (∀ k, E k → w.heap.size ≤ k) ∧ (∀ k, k < w.heap.size → wr.heap[k]? = w.heap[k]?) ∧ wr.heap[b]? = some (.cells #[.iface 55 (.pointer (some ⟨k, 0, none⟩))] 27) ∧ w.heap[k]? = some (.cells #[.string x.op, .string x.nm, .int .i64 x.pl, .iface tu yu] 57) ∧ ChnB w b0 rest (.iface tu yu))
      clear hj hns hrl hEb hEe hEl hag hTr hbe hvb hB hk hr
      gi_wp2
      refine ⟨trivial, (fun h => by cases h), (callsIn_wide.2 HA.out).mono ?_⟩
      rintro e w1 ⟨rfl, hkx, hrow⟩
      obtain ⟨hj, hns, hrl, hEb, hEe, hEl, hag, hvb, hk, hr⟩ := HS.out
      have hkE : KeepX E wr w1 := hkx.weaken (fun k _ e => by subst e; exact hEe)
      have hj1 := hJ _ _ _ _ hj hkE
      have ce : w1.cell? ⟨W.heap.size, 0, none⟩ = some (.pointer (some ⟨k, 0, none⟩)) := by rw [cell_of_row _ _ _ _ _ _ hrow]; rfl
      obtain ⟨fn, tmps, assign, body, hy, hR⟩ := hY _ pre (k, x) w1 (by rw [hns]; simp) hj1
      unfold encW at hy
      have hag1 : ∀ k, k < w.heap.size → w1.heap[k]? = w.heap[k]? := fun k hk => (hkE.block k (by have := (Array.getElem?_eq_some_iff.1 ((hag k hk).trans (Array.getElem?_eq_getElem hk))).1; omega) (fun e => by have := hEl k e; omega)).trans (hag k hk)
      have hvb1 : w1.heap[b]? = some (.cells #[.iface 55 (.pointer (some ⟨k, 0, none⟩))] 27) := (hkx.block b (Array.getElem?_eq_some_iff.1 hvb).1 (fun e => hlt0 e.symm)).trans hvb
      have hvbl := (Array.getElem?_eq_some_iff.1 hvb).1
      have HS1 := Lib.hid (⟨hkx.size, hns, hrl, hEb, hEe, hEl, hag1, hvb1, hk, hr, hrow⟩ : wr.heap.size ≤ w1.heap.size ∧ ns = pre ++ (k, x) :: rest ∧ ((k, x) :: rest).length = gk ∧ E b ∧ E W.heap.size ∧ (∀ k, E k → w.heap.size ≤ k) ∧ (∀ k, k < w.heap.size → w1.heap[k]? = w.heap[k]?) ∧ w1.heap[b]? = some (.cells #[.iface 55 (.pointer (some ⟨k, 0, none⟩))] 27) ∧ w.heap[k]? = some (.cells #[.string x.op, .string x.nm, .int .i64 x.pl, .iface tu yu] 57) ∧ ChnB w b0 rest (.iface tu yu) ∧ w1.heap[W.heap.size]? = some (.cells #[.pointer (some ⟨k, 0, none⟩)] 55))
      clear HA HS hj hns hrl hEb hEe hEl hag hvb hk hr hkx hrow hkE hag1 hvb1 hj1 cb
      gi_wp2
      refine ⟨(fun h => by cases h), hR.mono ?_⟩
      clear hR hy ce
      rintro e W3 (⟨rfl, hj3, hz⟩ | ⟨rfl, hx⟩)
      · obtain ⟨hsz, hns, hrl, hEb, hEe, hEl, hag, hvb, hk, hr, hrow⟩ := HS1.out
        have hwz : w.heap.size ≤ wr.heap.size := by have := hEl b hEb; have := hvbl; omega
        have b3 : W3.heap[b]? = _ := (hz b (.inl (.inl hEb))).trans hvb
        have e3 : W3.heap[W.heap.size]? = _ := (hz _ (.inl (.inl hEe))).trans hrow
        have k3 : W3.heap[k]? = _ := (hz k (.inr hkl)).trans ((hag k hkl).trans hk)
        have cb : W3.cell? ⟨b, 0, none⟩ = some (.iface 55 (.pointer (some ⟨k, 0, none⟩))) := by rw [cell_of_row _ _ _ _ _ _ b3]; rfl
        have fb : W3.frozen? ⟨b, 0, none⟩ = false := frozen_of_row _ _ _ _ _ b3
        have ce : W3.cell? ⟨W.heap.size, 0, none⟩ = some (.pointer (some ⟨k, 0, none⟩)) := by rw [cell_of_row _ _ _ _ _ _ e3]; rfl
        have ck : W3.cell? ⟨k, 3, none⟩ = some (.iface tu yu) := by rw [cell_of_row _ _ _ _ _ _ k3]; rfl
        have hj4 := hJ _ _ _ _ hj3 ((KeepX.refl _ W3).setCell (p := ⟨b, 0, none⟩) (.inl hEb) (.iface tu yu))
        have b4 := heap_setCell_same W3 b 0 _ _ (.iface tu yu) b3
        have e4 : (W3.setCell ⟨b, 0, none⟩ (.iface tu yu)).heap[W.heap.size]? = _ := (heap_setCell_ne' _ _ _ hlt0).trans e3
        have hbl : w.heap.size ≤ b := hEl b hEb
        have a4 : ∀ k, k < w.heap.size → (W3.setCell ⟨b, 0, none⟩ (.iface tu yu)).heap[k]? = w.heap[k]? := fun k hk => (heap_setCell_ne' _ _ _ (by show k ≠ b; omega)).trans ((hz k (.inr hk)).trans (hag k hk))
        have HS2 := Lib.hid (⟨hns, hrl, hEb, hEe, hEl, hr, hj4, b4, e4, a4, hsz⟩ : ns = pre ++ (k, x) :: rest ∧ ((k, x) :: rest).length = gk ∧ E b ∧ E W.heap.size ∧ (∀ k, E k → w.heap.size ≤ k) ∧ ChnB w b0 rest (.iface tu yu) ∧ J _ (pre ++ [(k, x)]) (W3.setCell ⟨b, 0, none⟩ (.iface tu yu)) ∧ (W3.setCell ⟨b, 0, none⟩ (.iface tu yu)).heap[b]? = _ ∧ (W3.setCell ⟨b, 0, none⟩ (.iface tu yu)).heap[W.heap.size]? = _ ∧ (∀ k, k < w.heap.size → (W3.setCell ⟨b, 0, none⟩ (.iface tu yu)).heap[k]? = w.heap[k]?) ∧ wr.heap.size ≤ w1.heap.size)
        have HWZ := Lib.hid (show w.heap.size ≤ wr.heap.size ∧ w.heap.size ≤ W3.heap.size by have h1 := (Array.getElem?_eq_some_iff.1 b3).1; exact ⟨hwz, by omega⟩)
        clear HS1 hns hrl hEb hEe hEl hag hvb hk hr hrow hz hj3 b3 e3 k3 hj4 b4 e4 a4 hsz
        gi_wp2
        obtain ⟨hns, hrl, hEb, hEe, hEl, hr, hj4, b4, e4, a4, hsz⟩ := HS2.out
        obtain ⟨z1, z2⟩ := HWZ.out
        go_roundg rest.length
        case measure => simp at hrl; omega
        case rel =>
          refine ⟨_, pre ++ [(k, x)], rest, _, by rw [hns]; simp, hr, hj4, .inl (.inl hEb), .inl (.inl hEe), ?_, ⟨_, e4⟩, b4, a4, rfl⟩
          rintro k ((h | h) | h)
          · exact hEl k h
          · omega
          · omega
      · have HX := Lib.hid hx
        clear hx HS1
        gi_wp2
        refine bodyPost_ret (results_none rfl _ _ _) rfl ?_
        exact ⟨⟨_, rfl⟩, .inr HX.out⟩
end Go.Proofs.YtabjpnggihginaaDoor
