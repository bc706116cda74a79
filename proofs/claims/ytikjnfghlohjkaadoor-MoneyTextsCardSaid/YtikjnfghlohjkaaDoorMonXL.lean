/- soukref03.Parse, its loop: what has been gathered before each place. -/
import Derived.Test.YtikjnfghlohjkaaDoorMonT
namespace Go.Proofs.YtikjnfghlohjkaaDoor
open Go.RowKit Go.Shelf Go.Lib

/-- the digits ahead of place i, but for the point at k -/
def stt (t : List UInt8) (k i : Nat) : List UInt8 := t.take (min i k) ++ (t.take i).drop (k + 1)
theorem stt_zero (t : List UInt8) (k : Nat) : stt t k 0 = [] := by unfold stt; simp
theorem stt_skip (t : List UInt8) (k : Nat) : stt t k (k + 1) = stt t k k := by
  unfold stt
  rw [Nat.min_eq_right (by omega), Nat.min_self, List.drop_of_length_le (by rw [List.length_take]; omega), List.drop_of_length_le (by rw [List.length_take]; omega)]
theorem stt_step (t : List UInt8) (k i : Nat) (h : i < t.length) (hk : i ≠ k) : stt t k (i + 1) = stt t k i ++ [t[i]] := by
  unfold stt
  rw [List.take_succ_eq_append_getElem h]
  rcases Nat.lt_or_ge i k with h1 | h1
  · rw [Nat.min_eq_left (by omega), Nat.min_eq_left (by omega), List.take_succ_eq_append_getElem h, List.drop_of_length_le (by rw [List.length_append, List.length_take, List.length_singleton]; omega), List.drop_of_length_le (by rw [List.length_take]; omega)]
    simp
  · rw [Nat.min_eq_right (by omega), Nat.min_eq_right (by omega), List.drop_append_of_le_length (by rw [List.length_take]; omega), List.append_assoc]
theorem stt_all (t : List UInt8) (h : 4 ≤ t.length) : stt t (t.length - 3) t.length = dg3 t := by
  unfold stt dg3
  rw [Nat.min_eq_right (by omega), List.take_length, show t.length - 3 + 1 = t.length - 2 by omega]
theorem dg3_mem (t : List UInt8) (h4 : 4 ≤ t.length) (i : Nat) (h : i < t.length) (hk : i ≠ t.length - 3) : t[i] ∈ dg3 t := by
  unfold dg3
  rw [List.mem_append]
  rcases Nat.lt_or_ge i (t.length - 3) with h1 | h1
  · left
    rw [List.mem_iff_getElem?]
    exact ⟨i, by rw [List.getElem?_take, if_pos h1, List.getElem?_eq_getElem h]⟩
  · right
    rw [List.mem_iff_getElem?]
    exact ⟨i - (t.length - 2), by rw [List.getElem?_drop, show t.length - 2 + (i - (t.length - 2)) = i by omega, List.getElem?_eq_getElem h]⟩
theorem bad_digit (t : List UInt8) (h4 : 4 ≤ t.length) (i : Nat) (h : i < t.length) (hk : i ≠ t.length - 3) (hd : ¬ (48 ≤ t[i].toNat ∧ t[i].toNat ≤ 57)) : rBad t = true := by
  unfold rBad
  have h1 : (dg3 t).all isD = false := by
    cases hq : (dg3 t).all isD with
    | false => rfl
    | true => exact absurd ((isD_iff _).1 (List.all_eq_true.1 hq _ (dg3_mem t h4 i h hk))) hd
  rw [h1]; simp

structure RInv (t : List UInt8) (k i : Nat) (n : Int) (far : Bool) : Prop where
  dig : ∀ b ∈ stt t k i, isD b = true
  fr : far = decide (4611686018427387904 < vl 0 (stt t k i))
  n0 : 0 ≤ n ∧ n ≤ 4611686018427387904
  nv : far = false → n = (vl 0 (stt t k i) : Nat)
theorem rinv_zero (t : List UInt8) (k : Nat) : RInv t k 0 0 false := by
  refine ⟨?_, ?_, by omega, ?_⟩
  · rw [stt_zero]; intro b hb; cases hb
  · rw [stt_zero]; rfl
  · rw [stt_zero]; intro _; rfl
theorem RInv.skip {t : List UInt8} {k : Nat} {n : Int} {far : Bool} (h : RInv t k k n far) : RInv t k (k + 1) n far := by
  obtain ⟨h1, h2, h3, h4⟩ := h
  rw [← stt_skip] at h1 h2 h4
  exact ⟨h1, h2, h3, h4⟩
theorem RInv.step {t : List UInt8} {k i : Nat} {n : Int} {far : Bool} (h : RInv t k i n far) (hi : i < t.length) (hk : i ≠ k) (c : Nat) (hc : t[i].toNat = c) (hd : 48 ≤ c ∧ c ≤ 57) :
    ((4611686018427387904 - ((c : Int) - 48)) / 10 < n → RInv t k (i + 1) 1 true) ∧ (¬ (4611686018427387904 - ((c : Int) - 48)) / 10 < n → RInv t k (i + 1) (n * 10 + ((c : Int) - 48)) far) := by
  obtain ⟨h1, h2, h3, h4⟩ := h
  have hv : vl 0 (stt t k (i + 1)) = vl 0 (stt t k i) * 10 + (c - 48) := by rw [stt_step t k i hi hk, vl_concat, hc]
  have hdig : ∀ b ∈ stt t k (i + 1), isD b = true := by
    rw [stt_step t k i hi hk]
    intro b hb
    rcases List.mem_append.1 hb with hb | hb
    · exact h1 b hb
    · rw [List.mem_singleton.1 hb, isD_iff, hc]; exact hd
  generalize vl 0 (stt t k i) = v at *
  constructor
  · intro hb
    refine ⟨hdig, ?_, by omega, fun h => by cases h⟩
    rw [hv]
    cases far with
    | false =>
      have := h4 rfl
      exact (decide_eq_true (by omega)).symm
    | true =>
      have := of_decide_eq_true h2.symm
      exact (decide_eq_true (by omega)).symm
  · intro hb
    refine ⟨hdig, ?_, by omega, ?_⟩
    · rw [hv]
      cases far with
      | false =>
        have := h4 rfl
        exact (decide_eq_false (by omega)).symm
      | true =>
        have := of_decide_eq_true h2.symm
        exact (decide_eq_true (by omega)).symm
    · intro hf
      have := h4 hf
      rw [hv]
      omega
/-- what is told behind the loop -/
theorem RInv.done {s : ByteArray} {n : Int} {far : Bool} (h4 : 4 ≤ (tl s).length) (h : RInv (tl s) ((tl s).length - 3) (tl s).length n far) (hg : (tl s)[(tl s).length - 3]? = some 46) (hh : (tl s).length = 4 ∨ (tl s).head? ≠ some 48) :
    (far = true → rV s = 0 ∧ rE s = 41) ∧ (far = false → pM s = true → n = 0 → rV s = 0 ∧ rE s = 4) ∧ (far = false → pM s = true → n ≠ 0 → rV s = -n ∧ rE s = 0) ∧ (far = false → pM s = false → rV s = n ∧ rE s = 0) := by
  obtain ⟨h1, h2, h3, h5⟩ := h
  rw [stt_all _ h4] at h1 h2 h5
  have hb : rBad (tl s) = false := by
    unfold rBad
    simp only [Bool.or_eq_false_iff, Bool.and_eq_false_iff, Bool.not_eq_false', decide_eq_false_iff_not, bne_eq_false_iff_eq, beq_eq_false_iff_ne]
    refine ⟨⟨⟨by omega, hg⟩, ?_⟩, List.all_eq_true.2 h1⟩
    rcases hh with hh | hh
    · exact .inl (by omega)
    · exact .inr hh
  unfold rV rE
  rw [if_neg (by rw [hb]; exact Bool.false_ne_true), if_neg (by rw [hb]; exact Bool.false_ne_true)]
  generalize vl 0 (dg3 (tl s)) = v at *
  generalize pM s = M at *
  unfold pV pE
  refine ⟨?_, ?_, ?_, ?_⟩
  · intro hf
    rw [hf] at h2
    have := of_decide_eq_true h2.symm
    rw [if_pos this, if_pos this]
    exact ⟨rfl, rfl⟩
  all_goals
    intro hf hM
    have hn := h5 hf
    rw [hf] at h2
    have h6 := of_decide_eq_false h2.symm
    rw [if_neg h6, if_neg h6]
  · intro h0
    rw [if_pos ⟨hM, by omega⟩, if_pos ⟨hM, by omega⟩]
    exact ⟨rfl, rfl⟩
  · intro h0
    rw [if_neg (fun h => by omega), if_pos hM, if_neg (fun h => by omega)]
    exact ⟨by omega, rfl⟩
  · rw [if_neg (fun h => by rw [hM] at h; cases h.1), if_neg (by rw [hM]; exact Bool.false_ne_true), if_neg (fun h => by rw [hM] at h; cases h.1)]
    exact ⟨by omega, rfl⟩
end Go.Proofs.YtikjnfghlohjkaaDoor
