/- What is owned stays owned where old blocks stay. -/
import Derived.Test.YtaonjbkkgeiniaaGreatDoorB2
namespace Go.Proofs.YtaonjbkkgeiniaaGreatDoor
open Go.RowKit
theorem ownsRow_below {w w' : World} {B : Nat} {t : TypeId} {k n : Nat} {v : Value} {xs : List Value} (h : w.ownsRow B t k v n xs) (hb : Below w.heap.size w w') : w'.ownsRow B t k v n xs :=
  ownsRow_keep h (fun g _ _ ho _ => (hb.block g (Array.getElem?_eq_some_iff.1 ho).1).trans ho)
theorem cells_own {W W' : World} {row : Option Nat} {k B : Nat} {cs : Array Value} {t : TypeId} (h : W.heap[k]? = some (.cells cs t)) (hg : W.grownBy W' row) (hr : ∀ r, row = some r → B ≤ r ∧ ∃ o : Obj, W.heap[r]? = some o ∧ o.isCells = false) : W'.heap[k]? = some (.cells cs t) := by
  rw [hg.block k (Array.getElem?_eq_some_iff.1 h).1 (fun e => by obtain ⟨_, o, ho, hc⟩ := hr k e.symm; rw [h] at ho; cases ho; cases hc)]
  exact h
end Go.Proofs.YtaonjbkkgeiniaaGreatDoor
