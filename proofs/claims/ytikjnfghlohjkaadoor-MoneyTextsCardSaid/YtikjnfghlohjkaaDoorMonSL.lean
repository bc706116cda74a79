/- soukref03.Show, its loop: what is left, and what stands already. -/
import Derived.Test.YtikjnfghlohjkaaDoorMonK
namespace Go.Proofs.YtikjnfghlohjkaaDoor
open Go.RowKit Go.Shelf Go.Lib

/-- the text of an amount that is not below nought -/
def amL (u : Nat) : List UInt8 := decDigits (u / 100) ++ 46 :: two2 (u % 100)
/-- before round i: x is left, r stands -/
def SInv (u i x : Nat) (r : List UInt8) : Prop :=
  x ≤ u ∧ ((i = 0 ∧ x = u ∧ r = []) ∨ (i = 1 ∧ x = u / 10 ∧ r = [UInt8.ofNat (48 + u % 10)]) ∨ (i = 2 ∧ x = u / 100 ∧ r = two2 (u % 100)) ∨
    (3 ≤ i ∧ i + 1 = r.length ∧ ((x ≠ 0 ∧ decDigits x ++ r = amL u) ∨ (x = 0 ∧ r = amL u))))
theorem SInv.start (u : Nat) : SInv u 0 u [] := ⟨Nat.le_refl _, .inl ⟨rfl, rfl, rfl⟩⟩
theorem am_len (u : Nat) (h : u < 18446744073709551616) : (amL u).length ≤ 23 := by
  unfold amL
  rw [List.length_append, List.length_cons]
  have h1 := (dg_size (u / 100) (by omega)).1
  rw [← len_size, dg_list] at h1
  have h2 : (two2 (u % 100)).length = 2 := rfl
  omega
theorem SInv.bound {u i x : Nat} {r : List UInt8} (h : SInv u i x r) (hu : u < 18446744073709551616) : i ≤ 22 ∧ r.length ≤ 23 := by
  have hl := am_len u hu
  obtain ⟨_, h | h | h | ⟨_, h2, h3⟩⟩ := h
  · obtain ⟨rfl, _, rfl⟩ := h; exact ⟨by omega, by simp⟩
  · obtain ⟨rfl, _, rfl⟩ := h; exact ⟨by omega, by simp⟩
  · obtain ⟨rfl, _, rfl⟩ := h; exact ⟨by omega, by show 2 ≤ 23; omega⟩
  · rcases h3 with ⟨_, h3⟩ | ⟨_, h3⟩
    · rw [← h3, List.length_append] at hl; omega
    · rw [← h3] at hl; omega
theorem dec_cons (x : Nat) (r : List UInt8) : (x / 10 ≠ 0 → decDigits (x / 10) ++ UInt8.ofNat (48 + x % 10) :: r = decDigits x ++ r) ∧ (x / 10 = 0 → UInt8.ofNat (48 + x % 10) :: r = decDigits x ++ r) := by
  constructor
  · intro h
    rw [dec_big (u := x) (by omega), List.append_assoc]
    rfl
  · intro h
    rw [decDigits_one (by omega), show x % 10 = x by omega]
    rfl
theorem SInv.dot {u x : Nat} {r : List UInt8} (h : SInv u 2 x r) : SInv u 3 (x / 10) (UInt8.ofNat (48 + x % 10) :: 46 :: r) := by
  obtain ⟨hx, h | h | ⟨_, h2, h3⟩ | ⟨h, _⟩⟩ := h
  · omega
  · omega
  · refine ⟨by omega, .inr (.inr (.inr ⟨Nat.le_refl _, ?_, ?_⟩))⟩
    · rw [h3]; rfl
    · have hd := dec_cons x (46 :: r)
      have e : decDigits x ++ 46 :: r = amL u := by unfold amL; rw [h2, h3]
      by_cases h0 : x / 10 = 0
      · exact .inr ⟨h0, by rw [hd.2 h0, e]⟩
      · exact .inl ⟨h0, by rw [hd.1 h0, e]⟩
  · omega
theorem SInv.step {u i x : Nat} {r : List UInt8} (h : SInv u i x r) (hi : i ≠ 2) (hc : i < 3 ∨ x ≠ 0) : SInv u (i + 1) (x / 10) (UInt8.ofNat (48 + x % 10) :: r) := by
  obtain ⟨hx, ⟨rfl, h2, rfl⟩ | ⟨rfl, h2, rfl⟩ | ⟨h, _⟩ | ⟨h1, h2, h3⟩⟩ := h
  · exact ⟨by omega, .inr (.inl ⟨rfl, by omega, by rw [h2]⟩)⟩
  · refine ⟨by omega, .inr (.inr (.inl ⟨rfl, by omega, ?_⟩))⟩
    unfold two2
    rw [show x % 10 = u % 100 / 10 by omega, show u % 100 % 10 = u % 10 by omega]
  · omega
  · refine ⟨by omega, .inr (.inr (.inr ⟨by omega, by rw [List.length_cons]; omega, ?_⟩))⟩
    rcases h3 with ⟨h4, h5⟩ | ⟨h4, _⟩
    · have hd := dec_cons x r
      by_cases h0 : x / 10 = 0
      · exact .inr ⟨h0, by rw [hd.2 h0, h5]⟩
      · exact .inl ⟨h0, by rw [hd.1 h0, h5]⟩
    · omega
theorem SInv.done {u i x : Nat} {r : List UInt8} (h : SInv u i x r) (hi : 3 ≤ i) (hx : x = 0) : r = amL u := by
  obtain ⟨_, h | h | h | ⟨_, _, ⟨h, _⟩ | ⟨_, h⟩⟩⟩ := h
  · omega
  · omega
  · omega
  · exact absurd hx h
  · exact h
theorem sh_bs (n : Int) : shS n = (⟨(sgL n ++ amL n.natAbs).toArray⟩ : ByteArray) := by
  have h : (shS n).data.toList = (⟨(sgL n ++ amL n.natAbs).toArray⟩ : ByteArray).data.toList := by rw [sh_list]; simp [amL]
  exact ByteArray.ext (Array.toList_inj.1 h)
end Go.Proofs.YtikjnfghlohjkaaDoor
