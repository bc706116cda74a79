import Derived.ScopeJumps
import Derived.ControlIn
import Derived.RangeFuncNested
import Derived.RangeFuncBound
import Derived.RangeFuncCalls
import Derived.RangeFuncLeaves
import Derived.Below
import Derived.Deep.RegionHeld3
import Derived.StillTail
/- A scope in which the run jumps back to one label, under a fence. -/
namespace Go.Proofs.YtabjpnggihginaaDoor
open Go

section
variable {F : Fence} {n : Nat} {P : Program} {Q : Exit → Act → World → Prop} {a : Act} {w : World} {b : Frame} {k : List Item} {cs : List Frame}

theorem stepR_scope {c : Code} : step P (lone (b.atR a (.code (.scope c) :: k)) cs w) = .next (lone (b.atR a (.code c :: .inScope c :: k)) cs w) :=
  step_lone_go (by simp [stepG, stepG.exec, Frame.atR])
theorem stepR_inScope {c : Code} : step P (lone (b.atR a (.inScope c :: k)) cs w) = .next (lone (b.atR a k) cs w) :=
  step_lone_go (by simp [stepG, stepG.exec, Frame.atR])

/-- what a pass within a scope leaves: at every way out but a goto as it was -/
theorem scope_out {m : Machine} {c : Code} {e : Exit} (he : e ≠ .normal) (hg : ∀ l, e ≠ .goto l) (h : ArrivesIn (Machine.fenced P F) P m b (.inScope c :: k) cs e a w) : ArrivesIn (Machine.fenced P F) P m b k cs e a w := by
  cases e with
  | normal => exact absurd rfl he
  | exit id => exact ⟨fun k' hk => h.1 k' (by simp [exitTo, hk]), fun hr hk => h.2 hr (by simp [exitTo, hk])⟩
  | goto l => exact absurd rfl (hg l)
  | ret => exact h
  | panic ch => exact h
  | outgrown => exact h

theorem wpIn_scope_jumps {c rest : Code} (l : Nat) (J : Act → World → Prop) (μ : Act → World → Nat) (hf : findLabel c l = some rest)
    (first : c.wpIn F n P (Exit.jump l J Q) a w)
    (pass : ∀ a w, J a w → rest.wpIn F n P (Exit.jump l (fun a' w' => J a' w' ∧ μ a' w' < μ a w) Q) a w) : (Code.scope c).wpIn F n P Q a w := by
  intro b k cs hro hb hr
  have hg : gotoIn l (.inScope c :: k) = some (.code rest :: .inScope c :: k) := by simp [gotoIn, hf]
  have key : ∀ m a w, μ a w = m → J a w → ∃ e a' w', Q e a' w' ∧ ArrivesIn (Machine.fenced P F) P (lone (b.atR a (.code rest :: .inScope c :: k)) cs w) b k cs e a' w' := by
    intro m
    induction m using Nat.strongRecOn with
    | _ m ih =>
      intro a w hm hJ
      obtain ⟨e, a₁, w₁, hq, harr⟩ := pass a w hJ b (.inScope c :: k) cs hro hb hr
      cases e with
      | normal => exact ⟨.normal, a₁, w₁, hq, StepsIn.trans harr (.one (fenced_calm hb hr rfl) stepR_inScope)⟩
      | goto l' =>
        obtain ⟨rfl, hJ', hlt⟩ := hq
        obtain ⟨e₂, a₂, w₂, hq₂, harr₂⟩ := ih _ (by omega) a₁ w₁ rfl hJ'
        exact ⟨e₂, a₂, w₂, hq₂, .of_steps (harr.1 _ hg) harr₂⟩
      | exit id => exact ⟨_, a₁, w₁, hq, scope_out (by simp) (by simp) harr⟩
      | ret => exact ⟨_, a₁, w₁, hq, harr⟩
      | panic ch => exact ⟨_, a₁, w₁, hq, harr⟩
      | outgrown => exact ⟨_, a₁, w₁, hq, harr⟩
  have h0 : (lone (b.atR a (.code (.scope c) :: k)) cs w).fenced P F := fenced_calm hb hr rfl
  obtain ⟨e, a₁, w₁, hq, harr⟩ := first b (.inScope c :: k) cs hro hb hr
  cases e with
  | normal => exact ⟨.normal, a₁, w₁, hq, .head h0 stepR_scope (StepsIn.trans harr (.one (fenced_calm hb hr rfl) stepR_inScope))⟩
  | goto l' =>
    obtain ⟨rfl, hJ'⟩ := hq
    obtain ⟨e₂, a₂, w₂, hq₂, harr₂⟩ := key _ a₁ w₁ rfl hJ'
    exact ⟨e₂, a₂, w₂, hq₂, .of_steps (.head h0 stepR_scope (harr.1 _ hg)) harr₂⟩
  | exit id => exact ⟨_, a₁, w₁, hq, .of_steps (.one h0 stepR_scope) (scope_out (by simp) (by simp) harr)⟩
  | ret => exact ⟨_, a₁, w₁, hq, .of_steps (.one h0 stepR_scope) harr⟩
  | panic ch => exact ⟨_, a₁, w₁, hq, .of_steps (.one h0 stepR_scope) harr⟩
  | outgrown => exact ⟨_, a₁, w₁, hq, .of_steps (.one h0 stepR_scope) harr⟩

theorem jump_weaken {l : Nat} {J J' : Act → World → Prop} (h : ∀ a w, J a w → J' a w) (e : Exit) (a : Act) (w : World) (hq : Exit.jump l J Q e a w) : Exit.jump l J' Q e a w := by
  cases e with
  | goto l' => exact ⟨hq.1, h _ _ hq.2⟩
  | normal => exact hq
  | exit id => exact hq
  | ret => exact hq
  | panic ch => exact hq
  | outgrown => exact hq

/-- the same, the label standing ahead of all -/
theorem wpIn_scope_label {rest : Code} (l : Nat) (J : Act → World → Prop) (μ : Act → World → Nat) (h0 : J a w)
    (pass : ∀ a w, J a w → rest.wpIn F n P (Exit.jump l (fun a' w' => J a' w' ∧ μ a' w' < μ a w) Q) a w) : (Code.scope ((Code.label l).seq rest)).wpIn F n P Q a w := by
  refine wpIn_scope_jumps l J μ (rest := Code.skip.seq rest) (by simp [findLabel]) (wpIn_seq (wpIn_label ?_)) (fun a w h => wpIn_seq (wpIn_skip (pass a w h)))
  exact wpIn_mono (pass a w h0) (fun e a w hq => jump_weaken (fun _ _ h => h.1) e a w hq)

end

end Go.Proofs.YtabjpnggihginaaDoor

/- 'for .. := range seq': an iterator that keeps state of its own in cells (captured variables): E says which blocks it may write. -/
namespace Go.Proofs.YtabjpnggihginaaDoor
open Go Go.RowKit

/-- what an iterator's step keeps: every block but those of E -/
structure KeepX (E : Nat → Prop) (W W' : World) : Prop where
  os : W'.os = W.os
  tape : W'.tape = W.tape
  output : W'.output = W.output
  size : W.heap.size ≤ W'.heap.size
  block : ∀ k, k < W.heap.size → ¬ E k → W'.heap[k]? = W.heap[k]?
theorem KeepX.refl (E : Nat → Prop) (W : World) : KeepX E W W := ⟨rfl, rfl, rfl, Nat.le_refl _, fun _ _ _ => rfl⟩
theorem KeepX.trans {E : Nat → Prop} {A B C : World} (h : KeepX E A B) (k : KeepX E B C) : KeepX E A C :=
  ⟨k.os.trans h.os, k.tape.trans h.tape, k.output.trans h.output, Nat.le_trans h.size k.size, fun i hi he => (k.block i (Nat.lt_of_lt_of_le hi h.size) he).trans (h.block i hi he)⟩
theorem KeepX.of_below {E : Nat → Prop} {A B : World} (h : Below A.heap.size A B) : KeepX E A B := ⟨h.os, h.tape, h.output, h.size, fun i hi _ => h.block i hi⟩
theorem KeepX.setCell {E : Nat → Prop} {A B : World} (h : KeepX E A B) {p : Addr} (hp : E p.block) (v : Value) : KeepX E A (B.setCell p v) := by
  have hb : Below 0 B (B.setCell p v) := (Below.refl 0 B).setCell (Nat.zero_le _) v
  refine ⟨hb.os.trans h.os, hb.tape.trans h.tape, hb.output.trans h.output, Nat.le_trans h.size hb.size, fun i hi he => ?_⟩
  rw [← h.block i hi he]
  have hne : i ≠ p.block := fun e => he (e ▸ hp)
  show (B.heap.modify p.block _)[i]? = _
  rw [Array.getElem?_modify]
  simp [hne.symm]

/-- how a round's body may be left -/
def keepPost {α : Type} (Z : Nat → Prop) (I : List α → World → Prop) (xs : List α) (W W2 : World) : Exit → Act → World → Prop
  | .normal, _, W3 => KeepsOthers W2 W3 ∧ (∀ k, Z k → W3.heap[k]? = W.heap[k]?) ∧ I xs W3
  | _, _, _ => False

theorem wp_rangeFunc_keep {P : Program} {n m : Nat} {α : Type} {g : Operand} {ps : Array Tmp} {assign body : Code} {Q : Exit → Act → World → Prop} {a : Act} {w : World}
    {gf : Nat} {lb : Array Value} (hg : a.eval g = .func (.func gf) #[] lb) (eg : ∀ args w, (callFunc gf args).run P w = .ok (.enter gf args) w)
    (encs : α → Array Value) (hps : ∀ x, (encs x).size = ps.size) (E Z : Nat → Prop) (hE : ∀ k, E k → k < w.heap.size) (hZ : ∀ k, Z k → k < w.heap.size)
    (I : List α → World → Prop) (S : List α → Prop) (V : List α → α → Prop)
    (hIk : ∀ s W W', I s W → w.heap.size ≤ W.heap.size → KeepX E W W' → I s W')
    (hIp : ∀ s W l o, I s W → w.heap.size ≤ l → l < W.heap.size → (∃ o', W.heap[l]? = some o' ∧ o'.isCells = false) → I s (W.putObj l o))
    (h0 : ∀ W, Below w.heap.size w W → I [] W)
    (hseq : ∀ (l : Nat) (J : List α → World → Prop) (W : World), Below w.heap.size w W → (∀ s W W', J s W → KeepX E W W' → J s W') →
      (∀ pre x W1, V pre x → J pre W1 → YieldAt Fence.wide m P l (encs x) W1 fun e W' => e = .returned (.bool true) ∧ J (pre ++ [x]) W' ∧ (∀ k, Z k → W'.heap[k]? = W1.heap[k]?)) →
      J [] W → CallsIn Fence.wide n P gf (#[.func (.yield l) #[] #[]] ++ lb) W fun e W' => (∃ v, e = .returned v) ∧ ∃ xs, S xs ∧ J xs W')
    (hround : ∀ (l : Nat) (pre : List α) (x : α) (W : World), I pre W → V pre x → w.heap.size ≤ l → (∃ o', W.heap[l]? = some o' ∧ o'.isCells = false) → ∀ K : Act → World → Prop,
      (∀ a1 W1, KeepsOthers W W1 → (∀ o, body.wpIn (Fence.wide.inRound l) m P (keepPost Z I (pre ++ [x]) W (W1.putObj l o)) a1 (W1.putObj l o)) → K a1 W1) →
      assign.wpIn (Fence.wide.inRound l) m P (Exit.then K (fun _ _ _ => False)) { tmps := (ps.zip (encs x)).foldl (fun t (p, v) => t.setIfInBounds p v) a.tmps, defers := [] } W)
    (hdone : ∀ (D : Nat) (xs : List α) (W : World), S xs → I xs W → w.heap.size ≤ D → W.heap[D]? = some (.deferred (some [])) → Q .normal { a with defers := { target := .collected D, args := #[] } :: a.defers } W) :
    (Code.rangeFunc g ps assign body).wpIn Fence.wide (n + 1) P Q a w := by
  refine wpIn_rangeFunc ?_
  intro fn hfn
  obtain ⟨rec, hrec⟩ : ∃ rec : LoopState → Option Code → Loop, rec = fun st pe => { state := st, pending := pe, fn, tmps := a.tmps, params := ps, assign, body, defers := w.heap.size } := ⟨_, rfl⟩
  obtain ⟨W1, hW1⟩ : ∃ W1, (w.alloc (.deferred (some []))).alloc (.loop (rec .ready none)) = W1 := ⟨_, rfl⟩
  have hL1 : W1.heap[w.heap.size + 1]? = some (.loop (rec .ready none)) := by
    rw [← hW1]; have := World.alloc_heap_new (w.alloc (.deferred (some []))) (.loop (rec .ready none)); rwa [World.size_alloc] at this
  have hK1 : W1.heap[w.heap.size]? = some (.deferred (some [])) := by
    rw [← hW1]; exact (Below.heap_alloc _ _ _ (by simp)).trans (World.alloc_heap_new w _)
  have hb1 : Below w.heap.size w W1 := by
    rw [← hW1]; exact ((Below.refl _ w).alloc (Nat.le_refl _) _).alloc (by simp) _
  refine ⟨w.heap.size + 1, [{ target := .collected w.heap.size, args := #[] }], W1, { target := .fn (.func gf) lb, args := #[.func (.yield (w.heap.size + 1)) #[] #[]] }, W1, gf,
    #[.func (.yield (w.heap.size + 1)) #[] #[]] ++ lb, W1, ?_, ?_, ?_, ?_, fun _ => by omega, ?_⟩
  · rw [← hW1, hrec]; exact run_enterLoop_outer _ _ _ _ _
  · simp only [resolve, hg]
    simp [go_sem]
  · intro f' _; trivial
  · simp [invoke, go_sem, eg]
  · refine (hseq (w.heap.size + 1)
      (fun pre W => I pre W ∧ W.heap[w.heap.size + 1]? = some (.loop (rec .ready none)) ∧ W.heap[w.heap.size]? = some (.deferred (some [])))
      W1 hb1 ?_ ?_ ⟨h0 _ hb1, hL1, hK1⟩).mono ?_
    · rintro s A B ⟨hi, hl, hk⟩ hx
      have h1 := (Array.getElem?_eq_some_iff.1 hl).1
      have h2 := (Array.getElem?_eq_some_iff.1 hk).1
      exact ⟨hIk s A B hi (by omega) hx, (hx.block _ h1 (fun e => by have := hE _ e; omega)).trans hl, (hx.block _ h2 (fun e => by have := hE _ e; omega)).trans hk⟩
    · rintro pre x W hv ⟨hi, hl, hk⟩
      have hlt : w.heap.size + 1 < W.heap.size := (Array.getElem?_eq_some_iff.1 hl).1
      have hy := run_yield (P := P) (args := encs x) hl (by rw [hrec]; exact hps x)
      rw [hrec] at hy
      refine ⟨fn, _, assign, body, hy, roundIn_of_wpIn hfn (hround _ pre x W hi hv (by omega) ⟨_, hl, rfl⟩ _ ?_)⟩
      intro a1 Wa hka hbody
      have hla := hka.same _ _ hl rfl
      have hda := hka.same _ _ hk rfl
      refine ⟨_, run_beginRound hla (by rw [hrec]), wpIn_mono (hbody _) ?_⟩
      have hlta : w.heap.size + 1 < Wa.heap.size := (Array.getElem?_eq_some_iff.1 hla).1
      have hl2 : (Wa.putObj (w.heap.size + 1) (.loop { rec .ready none with state := .busy })).heap[w.heap.size + 1]? = some (.loop { rec .ready none with state := .busy }) := World.putObj_heap_same hlta
      have hk2 : (Wa.putObj (w.heap.size + 1) (.loop { rec .ready none with state := .busy })).heap[w.heap.size]? = some (.deferred (some [])) := (World.putObj_heap_other (by omega)).trans hda
      rintro e a3 W3 hp
      cases e with
      | normal =>
        obtain ⟨hk3, hz, hi3⟩ := hp
        have hl3 := hk3.same _ _ hl2 rfl
        have hlt3 := (Array.getElem?_eq_some_iff.1 hl3).1
        refine ⟨_, _, run_endRound (P := P) none hl3, rfl, ⟨hIp _ _ _ _ hi3 (by omega) hlt3 ⟨_, hl3, rfl⟩, ?_, ?_⟩, ?_⟩
        · rw [World.putObj_heap_same hlt3, hrec]; rfl
        · exact (World.putObj_heap_other (by omega)).trans (hk3.same _ _ hk2 rfl)
        · intro k hzk
          rw [← hz k hzk]
          exact World.putObj_heap_other (by have := hZ k hzk; omega)
      | ret => exact hp.elim
      | exit id => exact hp.elim
      | goto t => exact hp.elim
      | panic ch => exact hp.elim
      | outgrown => exact hp.elim
    · rintro e W2 ⟨⟨v, rfl⟩, xs, hS, hi, hl, hk⟩
      exact ⟨none, _, by have := run_endLoop (P := P) hl (by rw [hrec]; simp); rw [hrec] at this; exact this, hdone _ xs _ hS (hIp _ _ _ _ hi (by omega) (Array.getElem?_eq_some_iff.1 hl).1 ⟨_, hl, rfl⟩) (Nat.le_refl _) ((World.putObj_heap_other (by omega)).trans hk)⟩

end Go.Proofs.YtabjpnggihginaaDoor

/- 'for .. := range seq' over an iterator that yields once, as its last step; it may write cells that it lays itself. -/
namespace Go.Proofs.YtabjpnggihginaaDoor
open Go Go.RowKit

theorem wp_rangeFunc_once {P : Program} {n m : Nat} {g : Operand} {ps : Array Tmp} {assign body : Code} {Q : Exit → Act → World → Prop} {a : Act} {w : World}
    {gf : Nat} {lb : Array Value} (hg : a.eval g = .func (.func gf) #[] lb) (eg : ∀ args w, (callFunc gf args).run P w = .ok (.enter gf args) w)
    (enc : Array Value) (hps : enc.size = ps.size)
    (I : Unit → World → Prop) (Ix : Code → Unit → World → Prop) (hI : OwnFrom w.heap.size I) (hIx : ∀ c, OwnFrom w.heap.size (Ix c))
    (hseq : ∀ (l : Nat) (W : World) (R : World → Prop), Below w.heap.size w W →
      (∀ W1, Below W.heap.size W W1 → YieldAt Fence.wide m P l enc W1 fun e W' => (e = .returned (.bool true) ∨ e = .returned (.bool false)) ∧ R W') →
      CallsIn Fence.wide n P gf (#[.func (.yield l) #[] #[]] ++ lb) W fun e W' => (∃ v, e = .returned v) ∧ R W')
    (a₁ : Act)
    (hassign : ∀ (l : Nat) (W : World) (K : Act → World → Prop), K a₁ W →
      assign.wpIn (Fence.wide.inRound l) m P (Exit.then K (fun _ _ _ => False)) { tmps := (ps.zip enc).foldl (fun t (p, v) => t.setIfInBounds p v) a.tmps, defers := [] } W)
    (hbody : ∀ (l : Nat) (W : World), Below w.heap.size w W → body.wpIn (Fence.wide.inRound l) m P (ownPostK (fun _ _ => True) (fun (_ : List Unit) => I ()) (fun c (_ : List Unit) => Ix c ()) [] W) a₁ W)
    (hdone : ∀ (D : Nat) (W : World), w.heap.size ≤ D → I () W → W.heap[D]? = some (.deferred (some [])) → Q .normal { a with defers := { target := .collected D, args := #[] } :: a.defers } W)
    (hstop : ∀ (D : Nat) (c : Code) (W : World), w.heap.size ≤ D → Ix c () W → W.heap[D]? = some (.deferred (some [])) → c.wpIn Fence.wide (n + 1) P Q { a with defers := { target := .collected D, args := #[] } :: a.defers } W) :
    (Code.rangeFunc g ps assign body).wpIn Fence.wide (n + 1) P Q a w := by
  refine wpIn_rangeFunc ?_
  intro fn hfn
  obtain ⟨rec, hrec⟩ : ∃ rec : LoopState → Option Code → Loop, rec = fun st pe => { state := st, pending := pe, fn, tmps := a.tmps, params := ps, assign, body, defers := w.heap.size } := ⟨_, rfl⟩
  obtain ⟨W1, hW1⟩ : ∃ W1, (w.alloc (.deferred (some []))).alloc (.loop (rec .ready none)) = W1 := ⟨_, rfl⟩
  have hL1 : W1.heap[w.heap.size + 1]? = some (.loop (rec .ready none)) := by
    rw [← hW1]; have := World.alloc_heap_new (w.alloc (.deferred (some []))) (.loop (rec .ready none)); rwa [World.size_alloc] at this
  have hK1 : W1.heap[w.heap.size]? = some (.deferred (some [])) := by
    rw [← hW1]; exact (Below.heap_alloc _ _ _ (by simp)).trans (World.alloc_heap_new w _)
  have hb1 : Below w.heap.size w W1 := by
    rw [← hW1]; exact ((Below.refl _ w).alloc (Nat.le_refl _) _).alloc (by simp) _
  have hbo : OwnFrom w.heap.size (fun (_ : Unit) W => Below w.heap.size w W) := ownFrom_below (Nat.le_refl _) (Nat.le_refl _)
  refine ⟨w.heap.size + 1, [{ target := .collected w.heap.size, args := #[] }], W1, { target := .fn (.func gf) lb, args := #[.func (.yield (w.heap.size + 1)) #[] #[]] }, W1, gf,
    #[.func (.yield (w.heap.size + 1)) #[] #[]] ++ lb, W1, ?_, ?_, ?_, ?_, fun _ => by omega, ?_⟩
  · rw [← hW1, hrec]; exact run_enterLoop_outer _ _ _ _ _
  · simp only [resolve, hg]
    simp [go_sem]
  · intro f' _; trivial
  · simp [invoke, go_sem, eg]
  · refine (hseq (w.heap.size + 1) W1
      (fun W => ((I () W ∧ W.heap[w.heap.size + 1]? = some (.loop (rec .ready none))) ∨ (∃ c, Ix c () W ∧ W.heap[w.heap.size + 1]? = some (.loop (rec .done (some c))))) ∧ W.heap[w.heap.size]? = some (.deferred (some [])))
      hb1 ?_).mono ?_
    · intro W hWb
      have h1 := (Array.getElem?_eq_some_iff.1 hL1).1
      have h2 := (Array.getElem?_eq_some_iff.1 hK1).1
      have hl := (hWb.block _ h1).trans hL1
      have hk := (hWb.block _ h2).trans hK1
      have hlt : w.heap.size + 1 < W.heap.size := (Array.getElem?_eq_some_iff.1 hl).1
      have hy := run_yield (P := P) (args := enc) hl (by rw [hrec]; exact hps)
      rw [hrec] at hy
      refine ⟨fn, _, assign, body, hy, roundIn_of_wpIn hfn (hassign _ W _ ⟨_, run_beginRound hl (by rw [hrec]), ?_⟩)⟩
      have hl2 : (W.putObj (w.heap.size + 1) (.loop { rec .ready none with state := .busy })).heap[w.heap.size + 1]? = some (.loop { rec .ready none with state := .busy }) := World.putObj_heap_same hlt
      have hk2 : (W.putObj (w.heap.size + 1) (.loop { rec .ready none with state := .busy })).heap[w.heap.size]? = some (.deferred (some [])) := (World.putObj_heap_other (by omega)).trans hk
      have hbW : Below w.heap.size w (W.putObj (w.heap.size + 1) (.loop { rec .ready none with state := .busy })) :=
        hbo.putObj (s := ()) _ (hb1.trans (hWb.mono (by omega))) (by omega) hl rfl
      refine wpIn_mono (hbody _ _ hbW) ?_
      have fin : ∀ (jump : Option Code) (W3 : World), KeepsOthers (W.putObj (w.heap.size + 1) (.loop { rec .ready none with state := .busy })) W3 →
          (Instr.endRound (w.heap.size + 1) jump).run P W3 = .ok (.bool jump.isNone) (W3.putObj (w.heap.size + 1) (.loop (rec (if jump.isNone then .ready else .done) jump))) ∧
          W3.heap[w.heap.size + 1]? = some (.loop { rec .ready none with state := .busy }) ∧
          (W3.putObj (w.heap.size + 1) (.loop (rec (if jump.isNone then .ready else .done) jump))).heap[w.heap.size + 1]? = some (.loop (rec (if jump.isNone then .ready else .done) jump)) ∧
          (W3.putObj (w.heap.size + 1) (.loop (rec (if jump.isNone then .ready else .done) jump))).heap[w.heap.size]? = some (.deferred (some [])) := fun jump W3 hk3 => by
        have hl3 := hk3.same _ _ hl2 rfl
        have := run_endRound (P := P) jump hl3
        rw [hrec] at this ⊢
        exact ⟨this, by rw [hrec] at hl3; exact hl3, World.putObj_heap_same (Array.getElem?_eq_some_iff.1 hl3).1, (World.putObj_heap_other (by omega)).trans (hk3.same _ _ hk2 rfl)⟩
      rintro e a3 W3 hp
      cases e with
      | normal =>
        obtain ⟨hk3, hkp3, hi3⟩ := hp
        obtain ⟨hr, hl3, hl4, hk4⟩ := fin none W3 hk3
        exact ⟨_, _, hr, .inl rfl, .inl ⟨hI.putObj _ hi3 (by omega) hl3 rfl, hl4⟩, hk4⟩
      | ret =>
        obtain ⟨hk3, hi3⟩ := hp
        obtain ⟨hr, hl3, hl4, hk4⟩ := fin (some .ret) W3 hk3
        exact ⟨_, _, hr, .inr rfl, .inr ⟨.ret, (hIx _).putObj _ hi3 (by omega) hl3 rfl, hl4⟩, hk4⟩
      | exit id =>
        obtain ⟨hk3, hi3⟩ := hp
        obtain ⟨hr, hl3, hl4, hk4⟩ := fin (some (.exit id)) W3 hk3
        exact ⟨_, _, hr, .inr rfl, .inr ⟨.exit id, (hIx _).putObj _ hi3 (by omega) hl3 rfl, hl4⟩, hk4⟩
      | goto t =>
        obtain ⟨hk3, hi3⟩ := hp
        obtain ⟨hr, hl3, hl4, hk4⟩ := fin (some (.goto t)) W3 hk3
        exact ⟨_, _, hr, .inr rfl, .inr ⟨.goto t, (hIx _).putObj _ hi3 (by omega) hl3 rfl, hl4⟩, hk4⟩
      | panic ch => exact hp.elim
      | outgrown => exact hp.elim
    · rintro e W2 ⟨⟨v, rfl⟩, (⟨hi, hl⟩ | ⟨c, hi, hl⟩), hk⟩
      · exact ⟨none, _, by have := run_endLoop (P := P) hl (by rw [hrec]; simp); rw [hrec] at this; exact this, hdone _ _ (Nat.le_refl _) (hI.putObj _ hi (by omega) hl rfl) ((World.putObj_heap_other (by omega)).trans hk)⟩
      · exact ⟨some c, _, by have := run_endLoop (P := P) hl (by rw [hrec]; simp); rw [hrec] at this; exact this, hstop _ c _ (Nat.le_refl _) ((hIx c).putObj _ hi (by omega) hl rfl) ((World.putObj_heap_other (by omega)).trans hk)⟩

end Go.Proofs.YtabjpnggihginaaDoor

/- A region that draws its order, and whose last operation waits for all others: the others by themselves, in whatever order, then it. -/
namespace Go.Proofs.YtabjpnggihginaaDoor
open Go

section
variable {P : Program} {md : Region.Mode} {Q : Exit → Act → World → Prop}

/-- what stands behind the others: the last operation -/
def popQ (P : Program) (o : Oper) (Q : Exit → Act → World → Prop) : Exit → Act → World → Prop
  | .normal, a, w => o.wp P a w (Q .normal) Q
  | e, a, w => Q e a w

theorem lets_pop {o : Oper} (h : LetsOut (popQ P o Q)) : LetsOut Q := h
theorem oper_pop {o oi : Oper} {a : Act} {w : World} {K : Act → World → Prop} (h : oi.wp P a w K (popQ P o Q)) : oi.wp P a w K Q := by
  unfold Oper.wp at *
  generalize (execOp a.eval oi).run P w = r at *
  cases r with
  | ok n w' =>
    cases n <;> simp only [Oper.upon] at h ⊢ <;>
      first
        | exact h
        | exact Calls.mono h (fun e w'' he => by cases e <;> first | exact he | exact lets_pop he)
  | halt x w' => cases x <;> simp only [Oper.upon] at h ⊢ <;> exact h
theorem getD_push_false (l : Array Bool) (k : Nat) : (l.push false).getD k false = l.getD k false := by
  rcases Nat.lt_trichotomy k l.size with h | h | h
  · simp [Array.getD, h, Nat.lt_succ_of_lt h, Array.getElem_push_lt h]
  · subst h; simp [Array.getD]
  · simp [Array.getD, show ¬ k < l.size by omega, show ¬ k < l.size + 1 by omega]
theorem getD_push_true (l : Array Bool) (k : Nat) (h : k < l.size) : (l.push false).getD k true = l.getD k true := by
  simp [Array.getD, h, Nat.lt_succ_of_lt h, Array.getElem_push_lt h]
theorem getD_both_in {l : Array Bool} {k : Nat} (h : k < l.size) : l.getD k true = l.getD k false := by simp [Array.getD, h]
theorem wpAny_over {ops : Array Oper} {listed : Array Bool} {a : Act} {w : World} (h : Region.ready md ops listed = []) (hq : Q .normal a w) : ∀ fuel, wpAny P md ops Q fuel listed a w
  | 0 => ⟨h, hq⟩
  | fuel + 1 => ⟨fun _ => hq, fun i hi => by rw [h] at hi; cases hi⟩

/-- each operation waits for earlier ones alone -/
def backB (md : Region.Mode) (ops : Array Oper) : Bool := (List.range ops.size).all fun i => match ops[i]? with | some o => o.guard.isNone && o.after.all fun e => !Region.binds md e || decide (e.on < i) | none => true
def lastB (md : Region.Mode) (o : Oper) (n : Nat) : Bool := o.guard.isNone && (o.after.all fun e => !Region.binds md e || decide (e.on < n))

theorem back_spec {ops : Array Oper} (h : backB md ops = true) {i : Nat} {oi : Oper} (hi : ops[i]? = some oi) : oi.guard = none ∧ ∀ e ∈ oi.after, Region.binds md e = true → e.on < i := by
  have hlt := (Array.getElem?_eq_some_iff.1 hi).1
  have h1 := List.all_eq_true.1 h i (List.mem_range.2 hlt)
  rw [hi] at h1
  simp only [Bool.and_eq_true, Option.isNone_iff_eq_none, Array.all_eq_true_iff_forall_mem] at h1
  refine ⟨h1.1, fun e he hb => ?_⟩
  have := h1.2 e he
  simpa [hb] using this
theorem last_spec {o : Oper} {n : Nat} (h : lastB md o n = true) : o.guard = none ∧ (∀ e ∈ o.after, Region.binds md e = true → e.on < n) := by
  unfold lastB at h
  simp only [Bool.and_eq_true, Option.isNone_iff_eq_none, Array.all_eq_true_iff_forall_mem] at h
  exact ⟨h.1, fun e he hb => by have := h.2 e he; simpa [hb] using this⟩
/-- where none may come up, all have come up -/
theorem all_listed {ops : Array Oper} (hb : backB md ops = true) {listed : Array Bool} (hs : listed.size = ops.size) (hr : Region.ready md ops listed = []) : ∀ i, i < ops.size → listed.getD i false = true := by
  intro i
  induction i using Nat.strongRecOn with
  | _ i ih =>
    intro hi
    refine Decidable.byContradiction fun hn => ?_
    have hf : listed.getD i true = false := by rw [getD_both_in (by omega)]; simpa using hn
    have ho : ops[i]? = some ops[i] := Array.getElem?_eq_getElem hi
    have : i ∈ Region.ready md ops listed := mem_ready.2 ⟨hf, _, ho, fun e he hbe => by have := (back_spec hb ho).2 e he hbe; exact ih _ this (by omega)⟩
    rw [hr] at this
    cases this

theorem wpAny_push {ops : Array Oper} {o : Oper} (hb : backB md ops = true) (hk : lastB md o ops.size = true) (hsk : Region.sinkB md (ops.push o) ops.size = true) : ∀ (fuel : Nat) (listed : Array Bool) (a : Act) (w : World), listed.size = ops.size → HeadInv md (ops.push o) ops.size (listed.push false) →
    wpAny P md ops (popQ P o Q) fuel listed a w → wpAny P md (ops.push o) Q (fuel + 1) (listed.push false) a w := by
  obtain ⟨hg, ho1⟩ := last_spec hk
  have hch : Region.chainB md (ops.push o) ops.size = true := by
    unfold Region.chainB
    rw [List.all_eq_true]
    intro t ht
    have := List.mem_range.1 ht
    rw [Array.size_push] at this
    simp [show t ≤ ops.size by omega]
  have hat : ∀ i, i < ops.size → (ops.push o)[i]? = ops[i]? := fun i hi => by rw [Array.getElem?_push_lt hi, Array.getElem?_eq_getElem hi]
  have hlast : (ops.push o)[ops.size]? = some o := Array.getElem?_push_size
  -- who may come up
  have same : ∀ (listed : Array Bool) i, listed.size = ops.size → i < ops.size → (i ∈ Region.ready md (ops.push o) (listed.push false) ↔ i ∈ Region.ready md ops listed) := by
    intro listed i hs hi
    rw [mem_ready, mem_ready, hat i hi, getD_push_true _ _ (by omega)]
    simp only [getD_push_false]
  have lst : ∀ (listed : Array Bool), listed.size = ops.size → (∀ i, i < ops.size → listed.getD i false = true) → ops.size ∈ Region.ready md (ops.push o) (listed.push false) := by
    intro listed hs hall
    rw [mem_ready]
    refine ⟨by rw [← hs]; simp [Array.getD], o, hlast, fun e he hbe => ?_⟩
    rw [getD_push_false]
    exact hall _ (ho1 e he hbe)
  have inlt : ∀ (listed : Array Bool) i, i ∈ Region.ready md (ops.push o) listed → i < ops.size ∨ i = ops.size := by
    intro listed i hi
    obtain ⟨_, o', ho', _⟩ := mem_ready.1 hi
    have := (Array.getElem?_eq_some_iff.1 ho').1
    rw [Array.size_push] at this
    omega
  have fin : ∀ (fuel : Nat) (listed : Array Bool) (a : Act) (w : World), listed.size = ops.size → Region.ready md ops listed = [] → o.wp P a w (Q .normal) Q → wpAny P md (ops.push o) Q (fuel + 1) (listed.push false) a w := by
    intro fuel listed a w hs hr hw
    have hall := all_listed hb hs hr
    refine ⟨fun h0 => ?_, fun i hi => ?_⟩
    · have := lst listed hs hall
      rw [h0] at this; cases this
    · rcases inlt _ i hi with h | rfl
      · have := (same listed i hs h).1 hi
        rw [hr] at this; cases this
      · unfold wpOp
        rw [hlast]
        simp only [Region.wanted, hg, if_true]
        refine .inl (Oper.wp_mono (fun a' w' h' => wpAny_over ?_ h' fuel) hw)
        refine List.eq_nil_iff_forall_not_mem.2 fun j hj => ?_
        obtain ⟨hj1, oj, hoj, _⟩ := mem_ready.1 hj
        have hjl := (Array.getElem?_eq_some_iff.1 hoj).1
        rw [Array.size_push] at hjl
        have hsz : ((listed.push false).setIfInBounds ops.size true).size = ops.size + 1 := by simp [hs]
        rw [getD_both_in (by omega)] at hj1
        by_cases e : j = ops.size
        · subst e
          simp [Array.getD, hs] at hj1
        · rw [getD_set_ne false (fun e' => e e'.symm), getD_push_false, hall j (by omega)] at hj1; cases hj1
  intro fuel
  induction fuel with
  | zero => intro listed a w hs _ h; exact fin 0 listed a w hs h.1 h.2
  | succ fuel ih =>
    intro listed a w hs inv h
    by_cases hr : Region.ready md ops listed = []
    · exact fin (fuel + 1) listed a w hs hr (h.1 hr)
    · obtain ⟨i0, hi0⟩ := List.exists_mem_of_ne_nil _ hr
      have hi0' := mem_ready.1 hi0
      obtain ⟨hu0, oi0, hoi0, _⟩ := hi0'
      have hl0 := (Array.getElem?_eq_some_iff.1 hoi0).1
      have hnl : ops.size ∉ Region.ready md (ops.push o) (listed.push false) :=
        tail_waits hsk hch (by rw [Array.size_push]; omega) inv _ i0 rfl hl0 (by rw [getD_push_true _ _ (by omega)]; exact hu0) ops.size (Nat.le_refl _)
      refine ⟨fun h0 => ?_, fun i hi => ?_⟩
      · have := (same listed i0 hs hl0).2 hi0
        rw [h0] at this; cases this
      · rcases inlt _ i hi with hlt | rfl
        · have hi' := (same listed i hs hlt).1 hi
          have h1 := h.2 i hi'
          have hoi : ops[i]? = some ops[i] := Array.getElem?_eq_getElem hlt
          have hgi := (back_spec hb hoi).1
          unfold wpOp at h1 ⊢
          rw [hat i hlt]
          rw [hoi] at h1 ⊢
          simp only [Region.wanted, hgi, if_true] at h1 ⊢
          have key : ∀ a' w', wpAny P md ops (popQ P o Q) fuel (listed.setIfInBounds i true) a' w' → wpAny P md (ops.push o) Q (fuel + 1) ((listed.push false).setIfInBounds i true) a' w' := by
            intro a' w' h'
            have e : (listed.push false).setIfInBounds i true = (listed.setIfInBounds i true).push false := by
              apply Array.ext_getElem?
              intro j
              simp only [Array.getElem?_setIfInBounds, Array.getElem?_push, Array.size_push, Array.size_setIfInBounds]
              by_cases e1 : i = j
              · subst e1; simp [show i < listed.size by omega, show ¬ i = listed.size by omega, show i < listed.size + 1 by omega]
              · simp [e1]
            have inv' := inv.set hi hlt
            rw [e] at inv' ⊢
            exact ih _ _ _ (by simpa using hs) inv' h'
          rcases h1 with h1 | ⟨h1, h2⟩
          · exact .inl (Oper.wp_mono key (oper_pop h1))
          · exact .inr ⟨h1, lets_pop h2⟩
        · exact absurd hi hnl

/-- THE LAW -/
theorem wp_region_pop {id : Nat} {ops : Array Oper} {o : Oper} {a : Act} {w : World} (hm : P.follows .mixedOrders = true) (hb : backB .any ops = true) (hk : lastB .any o ops.size = true) (hsk : Region.sinkB .any (ops.push o) ops.size = true)
    (h : wpAny P .any ops (popQ P o Q) ops.size (Array.replicate ops.size false) a w.drew) : (Code.region id (ops.push o) true).wp P Q a w := by
  refine wp_region_any hm ?_
  have hinv : HeadInv .any (ops.push o) ops.size ((Array.replicate ops.size false).push false) :=
    { size := by simp
      closed := fun j oj _ hl => by rw [getD_push_false, getD_replicate_false] at hl; cases hl
      tail := fun t ht ht' => by
        rw [Array.size_push] at ht'
        obtain rfl : t = ops.size := by omega
        have e := Array.getElem?_push_size (xs := Array.replicate ops.size false) (x := false)
        rw [Array.size_replicate] at e
        rw [Array.getD_eq_getD_getElem?, e]; rfl }
  have := wpAny_push (Q := Q) hb hk hsk ops.size (Array.replicate ops.size false) a w.drew (by simp) hinv h
  rw [Array.size_push]
  have e : Array.replicate (ops.size + 1) false = (Array.replicate ops.size false).push false := by rw [Array.replicate_succ]
  rw [e]
  exact this

/-- the same, of a list of operations that is written out -/
theorem wp_region_pop_at (n : Nat) {id : Nat} {l : List Oper} {o : Oper} {a : Act} {w : World} (hm : P.follows .mixedOrders = true) (hl : l.length = n + 1) (ho : l[n]? = some o) (hb : backB .any (l.take n).toArray = true) (hk : lastB .any o n = true) (hsk : Region.sinkB .any l.toArray n = true)
    (h : wpAny P .any (l.take n).toArray (popQ P o Q) n (Array.replicate n false) a w.drew) : (Code.region id l.toArray true).wp P Q a w := by
  have e : l.toArray = (l.take n).toArray.push o := by
    have hlt : n < l.length := by omega
    have h1 : l = l.take n ++ [o] := by
      have h2 : l[n] = o := by rw [List.getElem?_eq_getElem hlt] at ho; exact Option.some.inj ho
      rw [← h2, ← List.take_succ_eq_append_getElem hlt, List.take_of_length_le (by omega)]
    conv => lhs; rw [h1]
    simp
  have hs : (l.take n).toArray.size = n := by simp; omega
  rw [e] at hsk ⊢
  refine wp_region_pop hm hb (by rw [hs]; exact hk) (by rw [hs]; exact hsk) (by rw [hs]; exact h)

end

end Go.Proofs.YtabjpnggihginaaDoor

