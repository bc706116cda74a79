/- money.Parse, whatever the text. -/
import Derived.Test.YtikjnfghlohjkaaDoorMonU
namespace Go.Proofs.YtikjnfghlohjkaaDoor
open Go.RowKit Go.Shelf Go.Lib

theorem dw_idem {α : Type} (p : α → Bool) : ∀ L : List α, (L.dropWhile p).dropWhile p = L.dropWhile p
  | [] => rfl
  | a :: L => by
    by_cases h : p a = true
    · simp only [List.dropWhile_cons, h, if_true]; exact dw_idem p L
    · simp [h]
theorem dw_all {α : Type} (p : α → Bool) : ∀ L : List α, L.dropWhile p = [] → ∀ x ∈ L, p x = true
  | [], _, x, hx => by cases hx
  | a :: L, h, x, hx => by
    by_cases ha : p a = true
    · simp only [List.dropWhile_cons, ha, if_true] at h
      rcases List.mem_cons.1 hx with rfl | hx
      · exact ha
      · exact dw_all p L h x hx
    · simp [ha] at h
theorem dw_nil {α : Type} (p : α → Bool) : ∀ L : List α, (∀ x ∈ L, p x = true) → L.dropWhile p = []
  | [], _ => rfl
  | a :: L, h => by
    simp only [List.dropWhile_cons, h a (List.mem_cons_self ..), if_true]
    exact dw_nil p L (fun x hx => h x (List.mem_cons_of_mem _ hx))
theorem digs_of_trim (l : List UInt8) (h : Lib.trimS l digL = []) : ∀ b ∈ l, 48 ≤ b.toNat ∧ b.toNat ≤ 57 := by
  unfold Lib.trimS Lib.trimLeftS Lib.trimRightS at h
  have h1 := dw_all _ _ h
  have h2 : (l.reverse.dropWhile fun x => digL.contains x) = [] := by
    rw [← dw_idem]
    exact dw_nil _ _ fun x hx => h1 x (List.mem_reverse.2 hx)
  have h3 := dw_all _ _ h2
  intro b hb
  have h4 := h3 b (List.mem_reverse.2 hb)
  have h5 : b ∈ digL := by simpa using h4
  unfold digL at h5
  simp at h5
  rcases h5 with rfl | rfl | rfl | rfl | rfl | rfl | rfl | rfl | rfl | rfl <;> decide
/-- what is not bad is a number, or one that no uint64 holds -/
theorem num_of (W H : ByteArray) (is : Bool) (h : ¬ pBad W H is) : (∃ u, Lib.parseUintB 64 (W ++ H).data.toList = .ok u) ∨ Lib.parseUintB 64 (W ++ H).data.toList = .range := by
  have h2 : H.size = 2 := Decidable.byContradiction fun e => h (.inr (.inr (.inl e)))
  have h4 : Lib.trimS (W ++ H).data.toList digL = [] := Decidable.byContradiction fun e => h (.inr (.inr (.inr (.inr e))))
  have hne : (W ++ H).data.toList ≠ [] := by
    intro e
    have h5 : (W ++ H).data.toList.length = (W ++ H).size := rfl
    rw [e, ByteArray.size_append] at h5
    simp at h5
    omega
  unfold Lib.parseUintB
  rw [if_neg hne]
  exact num_or _ _ (digs_of_trim _ h4)
end Go.Proofs.YtikjnfghlohjkaaDoor
