/- A region that draws its order, inside a round of a range over a function: out of the plain calculus. -/
import Derived.Test.YtabjpnggihginaaDoorB0
import Derived.TacticsIn
import Derived.OrdersIn
namespace Go.Proofs.YtabjpnggihginaaDoor
open Go

section
variable {P : Program} {md : Region.Mode} {Q : Exit → Act → World → Prop} {n l : Nat}

theorem rowsIn_wide {row : String} {args : Array Value} {w : World} {R : Value → World → Prop} (h : Rows P row args w R) : RowsIn Fence.wide n P row args w R :=
  fun c cs _ => let ⟨v, w', r, s⟩ := h c cs; ⟨v, w', r, stepsIn_wide.2 s⟩

theorem oper_in_round {o : Oper} (ho : ∀ c, o.op ≠ .defer c) {a : Act} {w : World} {K : Act → World → Prop} (h : o.wp P a w K Q) : o.wpIn (Fence.wide.inRound l) n P a w K Q := by
  refine ⟨fun _ _ => trivial, ?_⟩
  rw [Oper.semAt_eq _ _ _ ho]
  unfold Oper.wp at h
  generalize (execOp a.eval o).run P w = r at *
  cases r with
  | ok x w' =>
    cases x <;> simp only [Oper.upon, Oper.uponIn] at h ⊢ <;>
      first
        | exact h
        | exact ⟨(fun e => by cases e), CallsIn.inRound l (callsIn_wide.2 h)⟩
        | exact ⟨(fun e => by cases e), rowsIn_wide h⟩
        | exact h.elim
  | halt x w' => cases x <;> simp only [Oper.upon, Oper.uponIn] at h ⊢ <;> exact h

theorem wpAny_in_round {ops : Array Oper} (hd : ∀ (i : Nat) (o : Oper), ops[i]? = some o → ∀ c, o.op ≠ .defer c) (hq : ¬ LetsOut Q) : ∀ (fuel : Nat) (listed : Array Bool) (a : Act) (w : World),
    wpAny P md ops Q fuel listed a w → wpAnyIn (Fence.wide.inRound l) n P md ops Q fuel listed a w
  | 0, _, _, _, h => h
  | fuel + 1, listed, a, w, h => by
    refine ⟨h.1, fun i hi => ?_⟩
    have h2 := h.2 i hi
    unfold wpOp at h2
    unfold wpOpIn
    cases ho : ops[i]? with
    | none => simp only [ho] at h2 ⊢; exact wpAny_in_round hd hq _ _ _ _ h2
    | some o =>
      simp only [ho] at h2 ⊢
      by_cases hw : Region.wanted o (yielded ops a.tmps) = true
      · simp only [hw, if_true] at h2 ⊢
        rcases h2 with h2 | ⟨_, h3⟩
        · exact oper_in_round (hd i o ho) (Oper.wp_mono (fun a' w' h' => wpAny_in_round hd hq _ _ _ _ h') h2)
        · exact absurd h3 hq
      · simp only [hw] at h2 ⊢
        exact ⟨fun _ _ => trivial, wpAny_in_round hd hq _ _ _ _ h2⟩

def noDefer (o : Oper) : Bool := match o.op with | .defer _ => false | _ => true
theorem noDefer_spec {ops : Array Oper} (h : ops.all noDefer = true) (i : Nat) (o : Oper) (ho : ops[i]? = some o) : ∀ c, o.op ≠ .defer c := by
  rw [Array.all_eq_true_iff_forall_mem] at h
  have := h o (Array.mem_of_getElem? ho)
  intro c e
  unfold noDefer at this
  rw [e] at this
  cases this

/-- THE LAW -/
theorem wpIn_region_round {id : Nat} {ops : Array Oper} {a : Act} {w : World} (hm : P.follows .mixedOrders = true) (hd : ops.all noDefer = true) (hq : ¬ LetsOut Q)
    (h : wpAny P .any ops Q ops.size (Array.replicate ops.size false) a w.drew) : (Code.region id ops true).wpIn (Fence.wide.inRound l) n P Q a w :=
  wpIn_region_any hm (wpAny_in_round (noDefer_spec hd) hq _ _ _ _ h)

/-- where the last operation waits for all others -/
theorem wpIn_region_round_pop (m : Nat) {id : Nat} {os : List Oper} {o : Oper} {a : Act} {w : World} (hm : P.follows .mixedOrders = true) (hd : os.toArray.all noDefer = true) (hq : ¬ LetsOut Q)
    (hl : os.length = m + 1) (ho : os[m]? = some o) (hb : backB .any (os.take m).toArray = true) (hk : lastB .any o m = true) (hsk : Region.sinkB .any os.toArray m = true)
    (h : wpAny P .any (os.take m).toArray (popQ P o Q) m (Array.replicate m false) a w.drew) : (Code.region id os.toArray true).wpIn (Fence.wide.inRound l) n P Q a w := by
  refine wpIn_region_round hm hd hq ?_
  have e : os.toArray = (os.take m).toArray.push o := by
    have hlt : m < os.length := by omega
    have h1 : os = os.take m ++ [o] := by
      have h2 : os[m] = o := by rw [List.getElem?_eq_getElem hlt] at ho; exact Option.some.inj ho
      rw [← h2, ← List.take_succ_eq_append_getElem hlt, List.take_of_length_le (by omega)]
    conv => lhs; rw [h1]
    simp
  have hs : (os.take m).toArray.size = m := by simp; omega
  rw [e] at hsk ⊢
  have hinv : HeadInv .any ((os.take m).toArray.push o) (os.take m).toArray.size ((Array.replicate (os.take m).toArray.size false).push false) :=
    { size := by simp
      closed := fun j oj _ hl => by rw [getD_push_false, getD_replicate_false] at hl; cases hl
      tail := fun t ht ht' => by
        rw [Array.size_push] at ht'
        obtain rfl : t = (os.take m).toArray.size := by omega
        have e := Array.getElem?_push_size (xs := Array.replicate (os.take m).toArray.size false) (x := false)
        rw [Array.size_replicate] at e
        rw [Array.getD_eq_getD_getElem?, e]; rfl }
  have := wpAny_push (Q := Q) hb (by rw [hs]; exact hk) (by rw [hs]; exact hsk) m (Array.replicate (os.take m).toArray.size false) a w.drew (by simp) hinv (by rw [hs]; exact h)
  rw [Array.size_push]
  have e2 : Array.replicate ((os.take m).toArray.size + 1) false = (Array.replicate (os.take m).toArray.size false).push false := by rw [Array.replicate_succ]
  rw [e2, hs]
  rw [hs] at this
  exact this

end

end Go.Proofs.YtabjpnggihginaaDoor
