/- Sums of rows: of a row turned about, of one begun elsewhere, of two rows. -/
import Derived.Test.YtikjnfghlohjkaaGreatDoorMonB
namespace Go.Proofs.YtikjnfghlohjkaaGreatDoor
open Go.RowKit

theorem sm_from : ∀ (l : List Int) (c : Int), l.foldl (fun t n => t + n) c = c + sm l
  | [], c => by unfold sm; simp
  | x :: l, c => by
    have h1 := sm_from l (c + x)
    have h2 := sm_from l (0 + x)
    unfold sm at *
    rw [List.foldl_cons, List.foldl_cons, h1, h2]
    omega
theorem sm_append (l m : List Int) : sm (l ++ m) = sm l + sm m := by
  show (l ++ m).foldl (fun t n => t + n) 0 = _
  rw [List.foldl_append, sm_from m]
  rfl
theorem sm_cons (x : Int) (l : List Int) : sm (x :: l) = x + sm l := by
  show (x :: l).foldl (fun t n => t + n) 0 = _
  rw [List.foldl_cons, sm_from l]
  omega
theorem sm_reverse : ∀ l : List Int, sm l.reverse = sm l
  | [] => rfl
  | x :: l => by
    rw [List.reverse_cons, sm_append, sm_reverse l, sm_cons, sm_cons]
    have : sm [] = 0 := rfl
    omega
theorem sm_turn (l : List Int) (k : Nat) : sm (l.drop k ++ l.take k) = sm l := by
  have h := sm_append (l.take k) (l.drop k)
  rw [List.take_append_drop] at h
  rw [sm_append]
  omega
end Go.Proofs.YtikjnfghlohjkaaGreatDoor
