/- 'for .. := range seq': an iterator that yields several times and writes, between its rounds, cells of its own, those that it lays on the way too: E says which blocks it owns by now; Z which blocks the body must leave alone besides. The body may leave early. -/
import Derived.Test.YtabjpnggihginaaDoorB0
namespace Go.Proofs.YtabjpnggihginaaDoor
open Go Go.RowKit

/-- what an iterator owns behind a step: what it owned, and what it has laid -/
def growE (E : Nat → Prop) (A B : World) (k : Nat) : Prop := E k ∨ (A.heap.size ≤ k ∧ k < B.heap.size)
theorem KeepX.grow {E : Nat → Prop} {A B C : World} (h : KeepX E A B) (k : KeepX (growE E A B) B C) : KeepX E A C :=
  ⟨k.os.trans h.os, k.tape.trans h.tape, k.output.trans h.output, Nat.le_trans h.size k.size, fun i hi he => (k.block i (Nat.lt_of_lt_of_le hi h.size) (fun g => g.elim he (fun g' => by omega))).trans (h.block i hi he)⟩
theorem KeepX.weaken {E E' : Nat → Prop} {A B : World} (h : KeepX E A B) (he : ∀ k, k < A.heap.size → E k → E' k) : KeepX E' A B :=
  ⟨h.os, h.tape, h.output, h.size, fun k hk hn => h.block k hk (fun e => hn (he k hk e))⟩

/-- how a round's body may be left -/
def ghPost {α : Type} (Z E : Nat → Prop) (I : (Nat → Prop) → List α → World → Prop) (Ix : Code → List α → World → Prop) (xs : List α) (W W2 : World) : Exit → Act → World → Prop
  | .normal, _, W3 => KeepsOthers W2 W3 ∧ (∀ k, E k ∨ Z k → W3.heap[k]? = W.heap[k]?) ∧ I E xs W3
  | .ret, _, W3 => KeepsOthers W2 W3 ∧ Ix .ret xs W3
  | .exit id, _, W3 => KeepsOthers W2 W3 ∧ Ix (.exit id) xs W3
  | .goto t, _, W3 => KeepsOthers W2 W3 ∧ Ix (.goto t) xs W3
  | _, _, _ => False

theorem wp_rangeFunc_ghost {P : Program} {n m : Nat} {α : Type} {g : Operand} {ps : Array Tmp} {assign body : Code} {Q : Exit → Act → World → Prop} {a : Act} {w : World}
    {gf : Nat} {lb : Array Value} (hg : a.eval g = .func (.func gf) #[] lb) (eg : ∀ args w, (callFunc gf args).run P w = .ok (.enter gf args) w)
    (encs : α → Array Value) (hps : ∀ x, (encs x).size = ps.size) (E0 Z : Nat → Prop) (hE : ∀ k, E0 k → k < w.heap.size) (hZ : ∀ k, Z k → k < w.heap.size)
    (I : (Nat → Prop) → List α → World → Prop) (Ix : Code → List α → World → Prop) (S : List α → Prop) (V : List α → α → Prop)
    (hIk : ∀ E s W W', I E s W → (∀ k, E k → k < W.heap.size) → w.heap.size ≤ W.heap.size → KeepX E W W' → I (growE E W W') s W')
    (hIp : ∀ E s W l o, I E s W → w.heap.size ≤ l → l < W.heap.size → (∃ o', W.heap[l]? = some o' ∧ o'.isCells = false) → I E s (W.putObj l o))
    (hXp : ∀ c s W l o, Ix c s W → w.heap.size ≤ l → l < W.heap.size → (∃ o', W.heap[l]? = some o' ∧ o'.isCells = false) → Ix c s (W.putObj l o))
    (hXd : ∀ c s W, Ix c s W → Ix c s W.drew)
    (h0 : ∀ W, Below w.heap.size w W → I E0 [] W)
    (hseq : ∀ (l : Nat) (J : (Nat → Prop) → List α → World → Prop) (Jx : World → Prop) (W : World), Below w.heap.size w W →
      (∀ E s W W', J E s W → KeepX E W W' → J (growE E W W') s W') → (∀ W, Jx W → Jx W.drew) → (∀ E s W, J E s W → ∀ k, E k → k < W.heap.size) →
      (∀ E pre x W1, V pre x → J E pre W1 → YieldAt Fence.wide m P l (encs x) W1 fun e W' => (e = .returned (.bool true) ∧ J E (pre ++ [x]) W' ∧ (∀ k, E k ∨ Z k → W'.heap[k]? = W1.heap[k]?)) ∨ (e = .returned (.bool false) ∧ Jx W')) →
      J E0 [] W → CallsIn Fence.wide n P gf (#[.func (.yield l) #[] #[]] ++ lb) W fun e W' => (∃ v, e = .returned v) ∧ ((∃ E xs, S xs ∧ J E xs W') ∨ Jx W'))
    (hround : ∀ (l : Nat) (E : Nat → Prop) (pre : List α) (x : α) (W : World), I E pre W → V pre x → (∀ k, E k → k < W.heap.size) → w.heap.size ≤ l → (∃ o', W.heap[l]? = some o' ∧ o'.isCells = false) → ¬ E l → ∀ K : Act → World → Prop,
      (∀ a1 W1, KeepsOthers W W1 → (∀ o, body.wpIn (Fence.wide.inRound l) m P (ghPost Z E I Ix (pre ++ [x]) W (W1.putObj l o)) a1 (W1.putObj l o)) → K a1 W1) →
      assign.wpIn (Fence.wide.inRound l) m P (Exit.then K (fun _ _ _ => False)) { tmps := (ps.zip (encs x)).foldl (fun t (p, v) => t.setIfInBounds p v) a.tmps, defers := [] } W)
    (hdone : ∀ (D : Nat) (E : Nat → Prop) (xs : List α) (W : World), S xs → I E xs W → w.heap.size ≤ D → W.heap[D]? = some (.deferred (some [])) → Q .normal { a with defers := { target := .collected D, args := #[] } :: a.defers } W)
    (hstop : ∀ (D : Nat) (c : Code) (pre : List α) (W : World), Ix c pre W → w.heap.size ≤ D → W.heap[D]? = some (.deferred (some [])) → c.wpIn Fence.wide (n + 1) P Q { a with defers := { target := .collected D, args := #[] } :: a.defers } W) :
    (Code.rangeFunc g ps assign body).wpIn Fence.wide (n + 1) P Q a w := by
  refine wpIn_rangeFunc ?_
  intro fn hfn
  obtain ⟨rec, hrec⟩ : ∃ rec : LoopState → Option Code → Loop, rec = fun st pe => { state := st, pending := pe, fn, tmps := a.tmps, params := ps, assign, body, defers := w.heap.size } := ⟨_, rfl⟩
  obtain ⟨W1, hW1⟩ : ∃ W1, (w.alloc (.deferred (some []))).alloc (.loop (rec .ready none)) = W1 := ⟨_, rfl⟩
  have hL1 : W1.heap[w.heap.size + 1]? = some (.loop (rec .ready none)) := by
    rw [← hW1]; have := World.alloc_heap_new (w.alloc (.deferred (some []))) (.loop (rec .ready none)); rwa [World.size_alloc] at this
  have hK1 : W1.heap[w.heap.size]? = some (.deferred (some [])) := by
    rw [← hW1]; exact (Below.heap_alloc _ _ _ (by simp)).trans (World.alloc_heap_new w _)
  have hb1 : Below w.heap.size w W1 := by
    rw [← hW1]; exact ((Below.refl _ w).alloc (Nat.le_refl _) _).alloc (by simp) _
  refine ⟨w.heap.size + 1, [{ target := .collected w.heap.size, args := #[] }], W1, { target := .fn (.func gf) lb, args := #[.func (.yield (w.heap.size + 1)) #[] #[]] }, W1, gf,
    #[.func (.yield (w.heap.size + 1)) #[] #[]] ++ lb, W1, ?_, ?_, ?_, ?_, fun _ => by omega, ?_⟩
  · rw [← hW1, hrec]; exact run_enterLoop_outer _ _ _ _ _
  · simp only [resolve, hg]
    simp [go_sem]
  · intro f' _; trivial
  · simp [invoke, go_sem, eg]
  · refine (hseq (w.heap.size + 1)
      (fun E pre W => I E pre W ∧ W.heap[w.heap.size + 1]? = some (.loop (rec .ready none)) ∧ W.heap[w.heap.size]? = some (.deferred (some [])) ∧ (∀ k, E k → k < W.heap.size) ∧ ¬ E (w.heap.size + 1) ∧ ¬ E w.heap.size)
      (fun W => ∃ c pre, Ix c pre W ∧ W.heap[w.heap.size + 1]? = some (.loop (rec .done (some c))) ∧ W.heap[w.heap.size]? = some (.deferred (some [])))
      W1 hb1 ?_ ?_ ?_ ?_ ⟨h0 _ hb1, hL1, hK1, fun k hk => by have := hE k hk; have := (Array.getElem?_eq_some_iff.1 hL1).1; omega, fun e => by have := hE _ e; omega, fun e => by have := hE _ e; omega⟩).mono ?_
    · rintro E s A B ⟨hi, hl, hk, hlt, hn1, hn0⟩ hx
      have h1 := (Array.getElem?_eq_some_iff.1 hl).1
      have h2 := (Array.getElem?_eq_some_iff.1 hk).1
      exact ⟨hIk E s A B hi hlt (by omega) hx, (hx.block _ h1 hn1).trans hl, (hx.block _ h2 hn0).trans hk, fun k hk' => hk'.elim (fun e => Nat.lt_of_lt_of_le (hlt k e) hx.size) (fun e => e.2), fun g => g.elim hn1 (fun e => by omega), fun g => g.elim hn0 (fun e => by omega)⟩
    · rintro W ⟨c, pre, hx, hl, hk⟩
      exact ⟨c, pre, hXd _ _ _ hx, hl, hk⟩
    · rintro E s W ⟨_, _, _, hlt, _⟩
      exact hlt
    · rintro E pre x W hv ⟨hi, hl, hk, hlt, hn1, hn0⟩
      have hll : w.heap.size + 1 < W.heap.size := (Array.getElem?_eq_some_iff.1 hl).1
      have hy := run_yield (P := P) (args := encs x) hl (by rw [hrec]; exact hps x)
      rw [hrec] at hy
      refine ⟨fn, _, assign, body, hy, roundIn_of_wpIn hfn (hround _ E pre x W hi hv hlt (by omega) ⟨_, hl, rfl⟩ hn1 _ ?_)⟩
      intro a1 Wa hka hbody
      have hla := hka.same _ _ hl rfl
      have hda := hka.same _ _ hk rfl
      refine ⟨_, run_beginRound hla (by rw [hrec]), wpIn_mono (hbody _) ?_⟩
      have hlta : w.heap.size + 1 < Wa.heap.size := (Array.getElem?_eq_some_iff.1 hla).1
      have hl2 : (Wa.putObj (w.heap.size + 1) (.loop { rec .ready none with state := .busy })).heap[w.heap.size + 1]? = some (.loop { rec .ready none with state := .busy }) := World.putObj_heap_same hlta
      have hk2 : (Wa.putObj (w.heap.size + 1) (.loop { rec .ready none with state := .busy })).heap[w.heap.size]? = some (.deferred (some [])) := (World.putObj_heap_other (by omega)).trans hda
      have fin : ∀ (jump : Option Code) (W3 : World), KeepsOthers (Wa.putObj (w.heap.size + 1) (.loop { rec .ready none with state := .busy })) W3 →
          (Instr.endRound (w.heap.size + 1) jump).run P W3 = .ok (.bool jump.isNone) (W3.putObj (w.heap.size + 1) (.loop (rec (if jump.isNone then .ready else .done) jump))) ∧
          W3.heap[w.heap.size + 1]? = some (.loop { rec .ready none with state := .busy }) ∧
          (W3.putObj (w.heap.size + 1) (.loop (rec (if jump.isNone then .ready else .done) jump))).heap[w.heap.size + 1]? = some (.loop (rec (if jump.isNone then .ready else .done) jump)) ∧
          (W3.putObj (w.heap.size + 1) (.loop (rec (if jump.isNone then .ready else .done) jump))).heap[w.heap.size]? = some (.deferred (some [])) := fun jump W3 hk3 => by
        have hl3 := hk3.same _ _ hl2 rfl
        have := run_endRound (P := P) jump hl3
        rw [hrec] at this ⊢
        exact ⟨this, by rw [hrec] at hl3; exact hl3, World.putObj_heap_same (Array.getElem?_eq_some_iff.1 hl3).1, (World.putObj_heap_other (by omega)).trans (hk3.same _ _ hk2 rfl)⟩
      rintro e a3 W3 hp
      cases e with
      | normal =>
        obtain ⟨hk3, hz, hi3⟩ := hp
        obtain ⟨hr, hl3, hl4, hk4⟩ := fin none W3 hk3
        have hlt3 := (Array.getElem?_eq_some_iff.1 hl3).1
        have hsz : W.heap.size ≤ W3.heap.size := by have h1 := hka.size; have h2 := hk3.size; simp at h2; omega
        refine ⟨_, _, hr, .inl ⟨rfl, ⟨hIp _ _ _ _ _ hi3 (by omega) hlt3 ⟨_, hl3, rfl⟩, hl4, hk4, ?_, hn1, hn0⟩, ?_⟩⟩
        · intro k hk'
          have := hlt k hk'
          simp
          omega
        · intro k hzk
          rw [← hz k hzk]
          exact World.putObj_heap_other (fun e => by subst e; exact hzk.elim hn1 (fun z => by have := hZ _ z; omega))
      | ret =>
        obtain ⟨hk3, hi3⟩ := hp
        obtain ⟨hr, hl3, hl4, hk4⟩ := fin (some .ret) W3 hk3
        exact ⟨_, _, hr, .inr ⟨rfl, .ret, _, hXp _ _ _ _ _ hi3 (by omega) (Array.getElem?_eq_some_iff.1 hl3).1 ⟨_, hl3, rfl⟩, hl4, hk4⟩⟩
      | exit id =>
        obtain ⟨hk3, hi3⟩ := hp
        obtain ⟨hr, hl3, hl4, hk4⟩ := fin (some (.exit id)) W3 hk3
        exact ⟨_, _, hr, .inr ⟨rfl, .exit id, _, hXp _ _ _ _ _ hi3 (by omega) (Array.getElem?_eq_some_iff.1 hl3).1 ⟨_, hl3, rfl⟩, hl4, hk4⟩⟩
      | goto t =>
        obtain ⟨hk3, hi3⟩ := hp
        obtain ⟨hr, hl3, hl4, hk4⟩ := fin (some (.goto t)) W3 hk3
        exact ⟨_, _, hr, .inr ⟨rfl, .goto t, _, hXp _ _ _ _ _ hi3 (by omega) (Array.getElem?_eq_some_iff.1 hl3).1 ⟨_, hl3, rfl⟩, hl4, hk4⟩⟩
      | panic ch => exact hp.elim
      | outgrown => exact hp.elim
    · rintro e W2 ⟨⟨v, rfl⟩, (⟨E, xs, hS, hi, hl, hk, hlt, hn1, hn0⟩ | ⟨c, pre, hi, hl, hk⟩)⟩
      · exact ⟨none, _, by have := run_endLoop (P := P) hl (by rw [hrec]; simp); rw [hrec] at this; exact this, hdone _ E xs _ hS (hIp _ _ _ _ _ hi (by omega) (Array.getElem?_eq_some_iff.1 hl).1 ⟨_, hl, rfl⟩) (Nat.le_refl _) ((World.putObj_heap_other (by omega)).trans hk)⟩
      · exact ⟨some c, _, by have := run_endLoop (P := P) hl (by rw [hrec]; simp); rw [hrec] at this; exact this, hstop _ c pre _ (hXp _ _ _ _ _ hi (by omega) (Array.getElem?_eq_some_iff.1 hl).1 ⟨_, hl, rfl⟩) (Nat.le_refl _) ((World.putObj_heap_other (by omega)).trans hk)⟩

end Go.Proofs.YtabjpnggihginaaDoor
