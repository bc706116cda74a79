/- Split, as lists of bytes: the segments that are done, and the one under way. -/
import Derived.Test.YtaonjbkkgeiniaaGreatDoorB3
namespace Go.Proofs.YtaonjbkkgeiniaaGreatDoor
open Go.RowKit

def spStep (most f : Nat) (st : List (List UInt8) × List UInt8) (l : List UInt8) : List (List UInt8) × List UInt8 :=
  if 16 < st.2.length ∧ most < st.2.length + 16 + l.length then (st.1 ++ [st.2], hdrL f ++ frm f l) else (st.1, st.2 ++ frm f l)
def spS (most : Nat) : Nat → List (List UInt8) × List UInt8 → List (List UInt8) → List (List UInt8) × List UInt8
  | _, st, [] => st
  | f, st, l :: ls => spS most (f + 1) (spStep most f st l) ls
/-- before payload k -/
def spK (most f : Nat) (ls : List (List UInt8)) (k : Nat) : List (List UInt8) × List UInt8 := spS most f ([], hdrL f) (ls.take k)
def spL (most f : Nat) (ls : List (List UInt8)) : List (List UInt8) := (spS most f ([], hdrL f) ls).1 ++ [(spS most f ([], hdrL f) ls).2]
theorem spS_snoc (most : Nat) (l : List UInt8) : ∀ (ls : List (List UInt8)) (f : Nat) (st : List (List UInt8) × List UInt8), spS most f st (ls ++ [l]) = spStep most (f + ls.length) (spS most f st ls) l
  | [], f, st => rfl
  | m :: ls, f, st => by
    show spS most (f + 1) (spStep most f st m) (ls ++ [l]) = _
    rw [spS_snoc most l ls (f + 1) _, List.length_cons, show f + 1 + ls.length = f + (ls.length + 1) by omega]
    rfl
theorem spK_zero (most f : Nat) (ls : List (List UInt8)) : spK most f ls 0 = ([], hdrL f) := rfl
theorem spK_succ (most f : Nat) (ls : List (List UInt8)) (k : Nat) (h : k < ls.length) : spK most f ls (k + 1) = spStep most (f + k) (spK most f ls k) ls[k] := by
  unfold spK
  rw [List.take_succ_eq_append_getElem h, spS_snoc, List.length_take, Nat.min_eq_left (by omega)]
theorem spK_all (most f : Nat) (ls : List (List UInt8)) : spL most f ls = (spK most f ls ls.length).1 ++ [(spK most f ls ls.length).2] := by
  unfold spL spK
  rw [List.take_length]
/-- what is under way has a header, and no more than all payloads -/
theorem spK_cur (most f : Nat) (ls : List (List UInt8)) (hp : ∀ l ∈ ls, payOk l) : ∀ k, k ≤ ls.length → 16 ≤ (spK most f ls k).2.length ∧ (spK most f ls k).2.length ≤ 16 + 4112 * k
  | 0, _ => by rw [spK_zero]; show 16 ≤ (hdrL f).length ∧ (hdrL f).length ≤ _; rw [hdr_len]; omega
  | k + 1, h => by
    have ih := spK_cur most f ls hp k (by omega)
    have hk := hp ls[k] (List.getElem_mem _)
    unfold payOk at hk
    rw [spK_succ most f ls k (by omega)]
    unfold spStep
    split
    · show 16 ≤ (hdrL _ ++ frm _ _).length ∧ _
      rw [List.length_append, hdr_len, frm_len]; omega
    · show 16 ≤ (_ ++ frm _ _).length ∧ _
      rw [List.length_append, frm_len]; omega
/-- what is done stays done -/
theorem spK_pre (most f : Nat) (ls : List (List UInt8)) (k : Nat) (h : k ≤ ls.length) : ∃ r, (spK most f ls ls.length).1 = (spK most f ls k).1 ++ r := by
  obtain ⟨j, hj⟩ : ∃ j, ls.length = k + j := ⟨ls.length - k, by omega⟩
  rw [hj]
  clear h
  have : ∀ j, k + j ≤ ls.length → ∃ r, (spK most f ls (k + j)).1 = (spK most f ls k).1 ++ r := by
    intro j
    induction j with
    | zero => intro _; exact ⟨[], by rw [List.append_nil]; rfl⟩
    | succ j ih =>
      intro hj
      obtain ⟨r, hr⟩ := ih (by omega)
      rw [show k + (j + 1) = k + j + 1 by omega, spK_succ most f ls (k + j) (by omega)]
      unfold spStep
      split
      · exact ⟨r ++ [(spK most f ls (k + j)).2], by rw [hr, List.append_assoc]⟩
      · exact ⟨r, hr⟩
  exact this j (by omega)
/-- the segment that is told next -/
theorem spL_get (most f : Nat) (ls : List (List UInt8)) (k : Nat) (h : k < ls.length) (hs : 16 < (spK most f ls k).2.length ∧ most < (spK most f ls k).2.length + 16 + ls[k].length) :
    (spL most f ls)[(spK most f ls k).1.length]? = some (spK most f ls k).2 := by
  obtain ⟨r, hr⟩ := spK_pre most f ls (k + 1) (by omega)
  rw [spK_succ most f ls k h] at hr
  unfold spStep at hr
  rw [if_pos hs] at hr
  rw [spK_all, hr, List.append_assoc, List.append_assoc, List.getElem?_append_right (Nat.le_refl _), Nat.sub_self]
  rfl
theorem spL_last (most f : Nat) (ls : List (List UInt8)) : (spL most f ls)[(spK most f ls ls.length).1.length]? = some (spK most f ls ls.length).2 := by
  rw [spK_all, List.getElem?_append_right (Nat.le_refl _), Nat.sub_self]
  rfl
theorem spL_len (most f : Nat) (ls : List (List UInt8)) : 1 ≤ (spL most f ls).length ∧ (spL most f ls).length ≤ ls.length + 1 := by
  have h : ∀ (ls : List (List UInt8)) (f : Nat) (st : List (List UInt8) × List UInt8), (spS most f st ls).1.length ≤ st.1.length + ls.length := by
    intro ls
    induction ls with
    | nil => intro f st; exact Nat.le_refl _
    | cons l ls ih =>
      intro f st
      have h1 := ih (f + 1) (spStep most f st l)
      have h2 : (spStep most f st l).1.length ≤ st.1.length + 1 := by
        unfold spStep
        split
        · show (st.1 ++ [st.2]).length ≤ _; rw [List.length_append]; exact Nat.le_refl _
        · exact Nat.le_succ _
      show (spS most (f + 1) (spStep most f st l) ls).1.length ≤ _
      rw [List.length_cons]
      omega
  have := h ls f ([], hdrL f)
  unfold spL
  rw [List.length_append, List.length_singleton]
  simp at this
  omega
/-- Fits -/
def fitB (size n most : Int) : Bool := decide (1 ≤ n ∧ n ≤ 4096) && (size == 16 || decide (size + 16 + n ≤ most))
end Go.Proofs.YtaonjbkkgeiniaaGreatDoor
