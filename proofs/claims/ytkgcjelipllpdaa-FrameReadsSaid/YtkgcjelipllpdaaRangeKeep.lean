/- 'for .. := range seq': an iterator that keeps state of its own in cells (captured variables): E says which blocks it may write. -/
import Derived.RangeFuncNested
import Derived.RangeFuncBound
import Derived.RangeFuncCalls
import Derived.RangeFuncLeaves
import Derived.Below
namespace Go.Proofs.Ytkgcjelipllpdaa
open Go Go.RowKit

/-- what an iterator's step keeps: every block but those of E -/
structure KeepX (E : Nat → Prop) (W W' : World) : Prop where
  os : W'.os = W.os
  tape : W'.tape = W.tape
  output : W'.output = W.output
  size : W.heap.size ≤ W'.heap.size
  block : ∀ k, k < W.heap.size → ¬ E k → W'.heap[k]? = W.heap[k]?
theorem KeepX.refl (E : Nat → Prop) (W : World) : KeepX E W W := ⟨rfl, rfl, rfl, Nat.le_refl _, fun _ _ _ => rfl⟩
theorem KeepX.trans {E : Nat → Prop} {A B C : World} (h : KeepX E A B) (k : KeepX E B C) : KeepX E A C :=
  ⟨k.os.trans h.os, k.tape.trans h.tape, k.output.trans h.output, Nat.le_trans h.size k.size, fun i hi he => (k.block i (Nat.lt_of_lt_of_le hi h.size) he).trans (h.block i hi he)⟩
theorem KeepX.of_below {E : Nat → Prop} {A B : World} (h : Below A.heap.size A B) : KeepX E A B := ⟨h.os, h.tape, h.output, h.size, fun i hi _ => h.block i hi⟩
theorem KeepX.setCell {E : Nat → Prop} {A B : World} (h : KeepX E A B) {p : Addr} (hp : E p.block) (v : Value) : KeepX E A (B.setCell p v) := by
  have hb : Below 0 B (B.setCell p v) := (Below.refl 0 B).setCell (Nat.zero_le _) v
  refine ⟨hb.os.trans h.os, hb.tape.trans h.tape, hb.output.trans h.output, Nat.le_trans h.size hb.size, fun i hi he => ?_⟩
  rw [← h.block i hi he]
  have hne : i ≠ p.block := fun e => he (e ▸ hp)
  show (B.heap.modify p.block _)[i]? = _
  rw [Array.getElem?_modify]
  simp [hne.symm]

/-- how a round's body may be left -/
def keepPost {α : Type} (Z : Nat → Prop) (I : List α → World → Prop) (xs : List α) (W W2 : World) : Exit → Act → World → Prop
  | .normal, _, W3 => KeepsOthers W2 W3 ∧ (∀ k, Z k → W3.heap[k]? = W.heap[k]?) ∧ I xs W3
  | _, _, _ => False

theorem wp_rangeFunc_keep {P : Program} {n m : Nat} {α : Type} {g : Operand} {ps : Array Tmp} {assign body : Code} {Q : Exit → Act → World → Prop} {a : Act} {w : World}
    {gf : Nat} {lb : Array Value} (hg : a.eval g = .func (.func gf) #[] lb) (eg : ∀ args w, (callFunc gf args).run P w = .ok (.enter gf args) w)
    (encs : α → Array Value) (hps : ∀ x, (encs x).size = ps.size) (E Z : Nat → Prop) (hE : ∀ k, E k → k < w.heap.size) (hZ : ∀ k, Z k → k < w.heap.size)
    (I : List α → World → Prop) (S : List α → Prop) (V : List α → α → Prop)
    (hIk : ∀ s W W', I s W → w.heap.size ≤ W.heap.size → KeepX E W W' → I s W')
    (hIp : ∀ s W l o, I s W → w.heap.size ≤ l → l < W.heap.size → (∃ o', W.heap[l]? = some o' ∧ o'.isCells = false) → I s (W.putObj l o))
    (h0 : ∀ W, Below w.heap.size w W → I [] W)
    (hseq : ∀ (l : Nat) (J : List α → World → Prop) (W : World), Below w.heap.size w W → (∀ s W W', J s W → KeepX E W W' → J s W') →
      (∀ pre x W1, V pre x → J pre W1 → YieldAt Fence.wide m P l (encs x) W1 fun e W' => e = .returned (.bool true) ∧ J (pre ++ [x]) W' ∧ (∀ k, Z k → W'.heap[k]? = W1.heap[k]?)) →
      J [] W → CallsIn Fence.wide n P gf (#[.func (.yield l) #[] #[]] ++ lb) W fun e W' => (∃ v, e = .returned v) ∧ ∃ xs, S xs ∧ J xs W')
    (hround : ∀ (l : Nat) (pre : List α) (x : α) (W : World), I pre W → V pre x → w.heap.size ≤ l → (∃ o', W.heap[l]? = some o' ∧ o'.isCells = false) → ∀ K : Act → World → Prop,
      (∀ a1 W1, KeepsOthers W W1 → (∀ o, body.wpIn (Fence.wide.inRound l) m P (keepPost Z I (pre ++ [x]) W (W1.putObj l o)) a1 (W1.putObj l o)) → K a1 W1) →
      assign.wpIn (Fence.wide.inRound l) m P (Exit.then K (fun _ _ _ => False)) { tmps := (ps.zip (encs x)).foldl (fun t (p, v) => t.setIfInBounds p v) a.tmps, defers := [] } W)
    (hdone : ∀ (D : Nat) (xs : List α) (W : World), S xs → I xs W → w.heap.size ≤ D → W.heap[D]? = some (.deferred (some [])) → Q .normal { a with defers := { target := .collected D, args := #[] } :: a.defers } W) :
    (Code.rangeFunc g ps assign body).wpIn Fence.wide (n + 1) P Q a w := by
  refine wpIn_rangeFunc ?_
  intro fn hfn
  obtain ⟨rec, hrec⟩ : ∃ rec : LoopState → Option Code → Loop, rec = fun st pe => { state := st, pending := pe, fn, tmps := a.tmps, params := ps, assign, body, defers := w.heap.size } := ⟨_, rfl⟩
  obtain ⟨W1, hW1⟩ : ∃ W1, (w.alloc (.deferred (some []))).alloc (.loop (rec .ready none)) = W1 := ⟨_, rfl⟩
  have hL1 : W1.heap[w.heap.size + 1]? = some (.loop (rec .ready none)) := by
    rw [← hW1]; have := World.alloc_heap_new (w.alloc (.deferred (some []))) (.loop (rec .ready none)); rwa [World.size_alloc] at this
  have hK1 : W1.heap[w.heap.size]? = some (.deferred (some [])) := by
    rw [← hW1]; exact (Below.heap_alloc _ _ _ (by simp)).trans (World.alloc_heap_new w _)
  have hb1 : Below w.heap.size w W1 := by
    rw [← hW1]; exact ((Below.refl _ w).alloc (Nat.le_refl _) _).alloc (by simp) _
  refine ⟨w.heap.size + 1, [{ target := .collected w.heap.size, args := #[] }], W1, { target := .fn (.func gf) lb, args := #[.func (.yield (w.heap.size + 1)) #[] #[]] }, W1, gf,
    #[.func (.yield (w.heap.size + 1)) #[] #[]] ++ lb, W1, ?_, ?_, ?_, ?_, fun _ => by omega, ?_⟩
  · rw [← hW1, hrec]; exact run_enterLoop_outer _ _ _ _ _
  · simp only [resolve, hg]
    simp [go_sem]
  · intro f' _; trivial
  · simp [invoke, go_sem, eg]
  · refine (hseq (w.heap.size + 1)
      (fun pre W => I pre W ∧ W.heap[w.heap.size + 1]? = some (.loop (rec .ready none)) ∧ W.heap[w.heap.size]? = some (.deferred (some [])))
      W1 hb1 ?_ ?_ ⟨h0 _ hb1, hL1, hK1⟩).mono ?_
    · rintro s A B ⟨hi, hl, hk⟩ hx
      have h1 := (Array.getElem?_eq_some_iff.1 hl).1
      have h2 := (Array.getElem?_eq_some_iff.1 hk).1
      exact ⟨hIk s A B hi (by omega) hx, (hx.block _ h1 (fun e => by have := hE _ e; omega)).trans hl, (hx.block _ h2 (fun e => by have := hE _ e; omega)).trans hk⟩
    · rintro pre x W hv ⟨hi, hl, hk⟩
      have hlt : w.heap.size + 1 < W.heap.size := (Array.getElem?_eq_some_iff.1 hl).1
      have hy := run_yield (P := P) (args := encs x) hl (by rw [hrec]; exact hps x)
      rw [hrec] at hy
      refine ⟨fn, _, assign, body, hy, roundIn_of_wpIn hfn (hround _ pre x W hi hv (by omega) ⟨_, hl, rfl⟩ _ ?_)⟩
      intro a1 Wa hka hbody
      have hla := hka.same _ _ hl rfl
      have hda := hka.same _ _ hk rfl
      refine ⟨_, run_beginRound hla (by rw [hrec]), wpIn_mono (hbody _) ?_⟩
      have hlta : w.heap.size + 1 < Wa.heap.size := (Array.getElem?_eq_some_iff.1 hla).1
      have hl2 : (Wa.putObj (w.heap.size + 1) (.loop { rec .ready none with state := .busy })).heap[w.heap.size + 1]? = some (.loop { rec .ready none with state := .busy }) := World.putObj_heap_same hlta
      have hk2 : (Wa.putObj (w.heap.size + 1) (.loop { rec .ready none with state := .busy })).heap[w.heap.size]? = some (.deferred (some [])) := (World.putObj_heap_other (by omega)).trans hda
      rintro e a3 W3 hp
      cases e with
      | normal =>
        obtain ⟨hk3, hz, hi3⟩ := hp
        have hl3 := hk3.same _ _ hl2 rfl
        have hlt3 := (Array.getElem?_eq_some_iff.1 hl3).1
        refine ⟨_, _, run_endRound (P := P) none hl3, rfl, ⟨hIp _ _ _ _ hi3 (by omega) hlt3 ⟨_, hl3, rfl⟩, ?_, ?_⟩, ?_⟩
        · rw [World.putObj_heap_same hlt3, hrec]; rfl
        · exact (World.putObj_heap_other (by omega)).trans (hk3.same _ _ hk2 rfl)
        · intro k hzk
          rw [← hz k hzk]
          exact World.putObj_heap_other (by have := hZ k hzk; omega)
      | ret => exact hp.elim
      | exit id => exact hp.elim
      | goto t => exact hp.elim
      | panic ch => exact hp.elim
      | outgrown => exact hp.elim
    · rintro e W2 ⟨⟨v, rfl⟩, xs, hS, hi, hl, hk⟩
      exact ⟨none, _, by have := run_endLoop (P := P) hl (by rw [hrec]; simp); rw [hrec] at this; exact this, hdone _ xs _ hS (hIp _ _ _ _ hi (by omega) (Array.getElem?_eq_some_iff.1 hl).1 ⟨_, hl, rfl⟩) (Nat.le_refl _) ((World.putObj_heap_other (by omega)).trans hk)⟩

end Go.Proofs.Ytkgcjelipllpdaa
