/- The texts of MoneyNames. (Printed by wip/gen_mnames.py.) -/
import Derived.Test.YtikjnfghlohjkaaDoorMonV2
namespace Go.Proofs.YtikjnfghlohjkaaDoor
open Go.RowKit Go.Shelf Go.Lib

def pBadB (W H : ByteArray) (is : Bool) : Bool := !is || W.data.toList.isEmpty || H.size != 2 || (decide (1 < W.size) && W.data.toList.head? == some 48) || !(Lib.trimS (W ++ H).data.toList digL).isEmpty
theorem pBad_of {W H : ByteArray} {is : Bool} (h : pBadB W H is = true) : pBad W H is := by
  unfold pBadB at h
  simp only [Bool.or_eq_true, Bool.and_eq_true, Bool.not_eq_true', decide_eq_true_eq, bne_iff_ne, ne_eq, beq_iff_eq] at h
  rcases h with (((h | h) | h) | ⟨h1, h2⟩) | h
  · exact .inl h
  · refine .inr (.inl ?_)
    rw [ByteArray.toList_eq]
    simpa using h
  · exact .inr (.inr (.inl h))
  · refine .inr (.inr (.inr (.inl ⟨h1, by omega, ?_⟩)))
    have h3 : W.data[0]? = some 48 := by rw [← Array.getElem?_toList, ← List.head?_eq_getElem?]; exact h2
    have h4 : W[0] = 48 := by
      have := Array.getElem?_eq_some_iff.1 h3
      exact this.2
    rw [h4]; rfl
  · refine .inr (.inr (.inr (.inr ?_)))
    intro e
    rw [e] at h
    cases h
theorem parG_bad {s : ByteArray} (hs : s.size ≤ 1000) (h : pBadB (cutD (pR s)).1 (cutD (pR s)).2.1 (cutD (pR s)).2.2 = true) : ParG s 0 4 := by
  rcases parse_ways s hs with ⟨_, h1⟩ | ⟨h1, _⟩ | ⟨h1, _⟩
  · exact h1
  · exact absurd (pBad_of h) h1
  · exact absurd (pBad_of h) h1
theorem parG_ok {s : ByteArray} (u : Nat) (hs : s.size ≤ 1000) (h : Lib.parseUintB 64 ((cutD (pR s)).1 ++ (cutD (pR s)).2.1).data.toList = .ok u) (hg : ¬ pBad (cutD (pR s)).1 (cutD (pR s)).2.1 (cutD (pR s)).2.2) : ParG s (pV (pM s) u) (pE (pM s) u) := by
  rcases parse_ways s hs with ⟨h1, _⟩ | ⟨_, h1, _⟩ | ⟨_, v, h1, h2⟩
  · exact absurd h1 hg
  · rw [h] at h1; cases h1
  · rw [h] at h1; cases h1; exact h2
theorem pBadB_of {W H : ByteArray} {is : Bool} (h : pBad W H is) : pBadB W H is = true := by
  unfold pBadB
  simp only [Bool.or_eq_true, Bool.and_eq_true, Bool.not_eq_true', decide_eq_true_eq, bne_iff_ne, ne_eq, beq_iff_eq]
  rcases h with h | h | h | ⟨h1, h0, h2⟩ | h
  · exact .inl (.inl (.inl (.inl h)))
  · refine .inl (.inl (.inl (.inr ?_)))
    rw [ByteArray.toList_eq] at h
    simpa using h
  · exact .inl (.inl (.inr h))
  · refine .inl (.inr ⟨h1, ?_⟩)
    rw [List.head?_eq_getElem?, Array.getElem?_toList, Array.getElem?_eq_some_iff]
    refine ⟨h0, ?_⟩
    show W[0] = 48
    exact UInt8.toNat_inj.1 h2
  · refine .inr ?_
    cases hl : Lib.trimS (W ++ H).data.toList digL with
    | nil => exact absurd hl h
    | cons a b => rfl
theorem not_bad {W H : ByteArray} {is : Bool} (h : pBadB W H is = false) : ¬ pBad W H is := fun e => by rw [pBadB_of e] at h; cases h
theorem parG_far {s : ByteArray} (hs : s.size ≤ 1000) (h : Lib.parseUintB 64 ((cutD (pR s)).1 ++ (cutD (pR s)).2.1).data.toList = .range) (hg : ¬ pBad (cutD (pR s)).1 (cutD (pR s)).2.1 (cutD (pR s)).2.2) : ParG s 0 41 := by
  rcases parse_ways s hs with ⟨h1, _⟩ | ⟨_, _, h2⟩ | ⟨_, v, h1, _⟩
  · exact absurd h1 hg
  · exact h2
  · rw [h] at h1; cases h1
def badL : List ByteArray := [⟨#[]⟩, ⟨#[45]⟩, ⟨#[46]⟩, ⟨#[49]⟩, ⟨#[49, 46]⟩, ⟨#[46, 48, 48]⟩, ⟨#[49, 46, 53]⟩, ⟨#[49, 46, 53, 48, 53]⟩, ⟨#[48, 49, 46, 48, 48]⟩, ⟨#[48, 48, 46, 48, 48]⟩, ⟨#[43, 49, 46, 48, 48]⟩, ⟨#[45, 45, 49, 46, 48, 48]⟩, ⟨#[49, 46, 48, 120]⟩, ⟨#[120, 46, 48, 48]⟩, ⟨#[49, 46, 50, 46, 51]⟩, ⟨#[32, 49, 46, 48, 48]⟩, ⟨#[49, 44, 48, 48]⟩, ⟨#[45, 48, 49, 46, 48, 48]⟩]
theorem badL_ok : (badL.all fun s => decide (s.size ≤ 1000) && pBadB (cutD (pR s)).1 (cutD (pR s)).2.1 (cutD (pR s)).2.2) = true := by decide +kernel
theorem bad_of {s : ByteArray} (h : s ∈ badL) : ParG s 0 4 := by
  have := List.all_eq_true.1 badL_ok s h
  simp only [Bool.and_eq_true, decide_eq_true_eq] at this
  exact parG_bad this.1 this.2
def bsMinus : ByteArray := ⟨#[45, 48, 46, 48, 48]⟩
theorem par_minus : ParG bsMinus 0 4 := parG_ok 0 (by decide) (by decide +kernel) (not_bad (by decide +kernel))
theorem par_top : ParG ⟨#[52, 54, 49, 49, 54, 56, 54, 48, 49, 56, 52, 50, 55, 51, 56, 55, 57, 46, 48, 52]⟩ 4611686018427387904 0 := parG_ok 4611686018427387904 (by decide) (by decide +kernel) (not_bad (by decide +kernel))
theorem par_over : ParG ⟨#[52, 54, 49, 49, 54, 56, 54, 48, 49, 56, 52, 50, 55, 51, 56, 55, 57, 46, 48, 53]⟩ 0 41 := parG_ok 4611686018427387905 (by decide) (by decide +kernel) (not_bad (by decide +kernel))
theorem par_under : ParG ⟨#[45, 52, 54, 49, 49, 54, 56, 54, 48, 49, 56, 52, 50, 55, 51, 56, 55, 57, 46, 48, 53]⟩ 0 41 := parG_ok 4611686018427387905 (by decide) (by decide +kernel) (not_bad (by decide +kernel))
theorem par_far : ParG ⟨#[57, 57, 57, 57, 57, 57, 57, 57, 57, 57, 57, 57, 57, 57, 57, 57, 57, 57, 57, 57, 46, 48, 48]⟩ 0 41 := parG_far (by decide) (by decide +kernel) (not_bad (by decide +kernel))
end Go.Proofs.YtikjnfghlohjkaaDoor
