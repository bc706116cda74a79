/- money.Parse, whatever the text, in one word: rV, rE. -/
import Derived.Test.YtikjnfghlohjkaaDoorMonNa
import Derived.Test.YtikjnfghlohjkaaDoorMonL
namespace Go.Proofs.YtikjnfghlohjkaaDoor
open Go.RowKit Go.Shelf Go.Lib

/-- the text behind its sign -/
def tl (s : ByteArray) : List UInt8 := (pR s).data.toList
/-- the digits: all but the point -/
def dg3 (t : List UInt8) : List UInt8 := t.take (t.length - 3) ++ t.drop (t.length - 2)
def rBad (t : List UInt8) : Bool := decide (t.length < 4) || t[t.length - 3]? != some 46 || (decide (4 < t.length) && t.head? == some 48) || !((dg3 t).all isD)
def rV (s : ByteArray) : Int := if rBad (tl s) = true then 0 else pV (pM s) (vl 0 (dg3 (tl s)))
def rE (s : ByteArray) : Int := if rBad (tl s) = true then 4 else pE (pM s) (vl 0 (dg3 (tl s)))

theorem isD_digL (b : UInt8) (h : isD b = true) : digL.contains b = true := by
  rw [isD_iff] at h
  have h2 : b.toNat = 48 ∨ b.toNat = 49 ∨ b.toNat = 50 ∨ b.toNat = 51 ∨ b.toNat = 52 ∨ b.toNat = 53 ∨ b.toNat = 54 ∨ b.toNat = 55 ∨ b.toNat = 56 ∨ b.toNat = 57 := by omega
  rcases h2 with e | e | e | e | e | e | e | e | e | e
  · obtain rfl : b = 48 := UInt8.toNat_inj.1 e
    decide
  · obtain rfl : b = 49 := UInt8.toNat_inj.1 e
    decide
  · obtain rfl : b = 50 := UInt8.toNat_inj.1 e
    decide
  · obtain rfl : b = 51 := UInt8.toNat_inj.1 e
    decide
  · obtain rfl : b = 52 := UInt8.toNat_inj.1 e
    decide
  · obtain rfl : b = 53 := UInt8.toNat_inj.1 e
    decide
  · obtain rfl : b = 54 := UInt8.toNat_inj.1 e
    decide
  · obtain rfl : b = 55 := UInt8.toNat_inj.1 e
    decide
  · obtain rfl : b = 56 := UInt8.toNat_inj.1 e
    decide
  · obtain rfl : b = 57 := UInt8.toNat_inj.1 e
    decide
theorem trim_iff (l : List UInt8) : Lib.trimS l digL = [] ↔ l.all isD = true := by
  constructor
  · intro h
    rw [List.all_eq_true]
    exact fun b hb => (isD_iff b).2 (digs_of_trim l h b hb)
  · intro h
    rw [List.all_eq_true] at h
    unfold Lib.trimS Lib.trimLeftS Lib.trimRightS
    have h1 : (l.reverse.dropWhile fun x => digL.contains x) = [] := dw_nil _ _ fun x hx => isD_digL x (h x (List.mem_reverse.1 hx))
    exact dw_nil _ _ fun x hx => by
      have h2 := (List.dropWhile_sublist _).subset (List.mem_reverse.1 hx)
      exact isD_digL x (h x (by simpa using h2))

theorem cut_at (R : ByteArray) (k : Nat) (h : dot R = (k : Int)) : (cutD R).1.data.toList = R.data.toList.take k ∧ (cutD R).2.1.data.toList = R.data.toList.drop (k + 1) ∧ (cutD R).2.2 = true := by
  have hl : R.data.toList.length = R.size := rfl
  unfold cutD
  rw [if_pos (by omega), h, Int.toNat_natCast]
  refine ⟨?_, ?_, rfl⟩
  · simp
  · simp only [ByteArray.data_extract, Array.toList_extract]
    exact List.take_of_length_le (by rw [List.length_drop, hl]; omega)
theorem len_size (s : ByteArray) : s.data.toList.length = s.size := rfl
theorem good_cut (s : ByteArray) (h : rBad (tl s) = false) : dot (pR s) = (((tl s).length - 3 : Nat) : Int) ∧ 4 ≤ (tl s).length ∧ ((dg3 (tl s)).all isD) = true ∧ ((tl s).length = 4 ∨ (tl s).head? ≠ some 48) := by
  unfold rBad at h
  simp only [Bool.or_eq_false_iff, Bool.and_eq_false_iff, Bool.not_eq_false', decide_eq_false_iff_not, bne_eq_false_iff_eq, beq_eq_false_iff_ne] at h
  obtain ⟨⟨⟨h1, h2⟩, h3⟩, h4⟩ := h
  refine ⟨ib_at _ 46 _ ?_ h2, by omega, h4, ?_⟩
  · intro b hb e
    have h5 : isD b = true := List.all_eq_true.1 h4 b (List.mem_append_left _ hb)
    rw [e] at h5
    cases h5
  · rcases h3 with h3 | h3
    · exact .inl (by omega)
    · exact .inr (by simpa using h3)
theorem pbad_of_good (s : ByteArray) (h : rBad (tl s) = false) : pBadB (cutD (pR s)).1 (cutD (pR s)).2.1 (cutD (pR s)).2.2 = false ∧ ((cutD (pR s)).1 ++ (cutD (pR s)).2.1).data.toList = dg3 (tl s) := by
  obtain ⟨hd, h4, ha, hh⟩ := good_cut s h
  obtain ⟨c1, c2, c3⟩ := cut_at (pR s) _ hd
  change (cutD (pR s)).1.data.toList = (tl s).take _ at c1
  change (cutD (pR s)).2.1.data.toList = (tl s).drop _ at c2
  have e : ((cutD (pR s)).1 ++ (cutD (pR s)).2.1).data.toList = dg3 (tl s) := by
    rw [ByteArray.data_append, Array.toList_append, c1, c2]
    unfold dg3
    rw [show (tl s).length - 3 + 1 = (tl s).length - 2 by omega]
  refine ⟨?_, e⟩
  have s1 : (cutD (pR s)).1.size = (tl s).length - 3 := by rw [← len_size, c1, List.length_take]; omega
  have s2 : (cutD (pR s)).2.1.size = 2 := by rw [← len_size, c2, List.length_drop]; omega
  have hne : (cutD (pR s)).1.data.toList ≠ [] := by
    intro e
    have := len_size (cutD (pR s)).1
    rw [e, s1] at this
    simp at this
    omega
  have hhd : (cutD (pR s)).1.data.toList.head? = (tl s).head? := by
    rw [c1]
    cases hq : tl s with
    | nil => rw [hq] at h4; simp at h4
    | cons a b =>
      obtain ⟨j, hj⟩ : ∃ j, (a :: b).length - 3 = j + 1 := ⟨(a :: b).length - 4, by rw [hq] at h4; omega⟩
      rw [hj, List.take_succ_cons]; rfl
  have htr := (trim_iff (dg3 (tl s))).2 ha
  unfold pBadB
  rw [e, htr, c3, s1, s2, hhd]
  simp only [Bool.or_eq_false_iff, Bool.and_eq_false_iff, Bool.not_eq_false', decide_eq_false_iff_not, beq_eq_false_iff_ne]
  refine ⟨⟨⟨⟨trivial, ?_⟩, by decide⟩, ?_⟩, rfl⟩
  · simpa using hne
  · rcases hh with hh | hh
    · exact .inl (by omega)
    · exact .inr hh
theorem good_of_pbad (s : ByteArray) (h : pBadB (cutD (pR s)).1 (cutD (pR s)).2.1 (cutD (pR s)).2.2 = false) : rBad (tl s) = false := by
  have his : (cutD (pR s)).2.2 = true := by
    unfold pBadB at h
    simp only [Bool.or_eq_false_iff, Bool.not_eq_false'] at h
    exact h.1.1.1.1
  have h0 : 0 ≤ dot (pR s) := by
    refine Decidable.byContradiction fun hn => ?_
    unfold cutD at his
    rw [if_neg hn] at his
    cases his
  obtain ⟨k, hk⟩ : ∃ k : Nat, dot (pR s) = k := ⟨(dot (pR s)).toNat, by omega⟩
  have hlt := dot_lt (pR s)
  rw [hk] at hlt
  have hlt2 : k < (tl s).length := by have := len_size (pR s); unfold tl; omega
  obtain ⟨c1, c2, c3⟩ := cut_at (pR s) _ hk
  have hg : (tl s)[k]? = some 46 := ib_get _ 46 k hk
  change (cutD (pR s)).1.data.toList = (tl s).take _ at c1
  change (cutD (pR s)).2.1.data.toList = (tl s).drop _ at c2
  have e : ((cutD (pR s)).1 ++ (cutD (pR s)).2.1).data.toList = (tl s).take k ++ (tl s).drop (k + 1) := by
    rw [ByteArray.data_append, Array.toList_append, c1, c2]
  have s1 : (cutD (pR s)).1.size = k := by rw [← len_size, c1, List.length_take]; omega
  have s2 : (cutD (pR s)).2.1.size = (tl s).length - (k + 1) := by rw [← len_size, c2, List.length_drop]
  unfold pBadB at h
  rw [e, c1, s1, s2] at h
  simp only [Bool.or_eq_false_iff, Bool.and_eq_false_iff, Bool.not_eq_false', decide_eq_false_iff_not, beq_eq_false_iff_ne, bne_eq_false_iff_eq] at h
  obtain ⟨⟨⟨⟨_, h1⟩, h2⟩, h3⟩, h4⟩ := h
  obtain rfl : k = (tl s).length - 3 := by omega
  have hk0 : (tl s).length - 3 ≠ 0 := by
    intro e0
    rw [e0] at h1
    simp at h1
  have htr := (trim_iff _).1 (by simpa using h4)
  unfold rBad dg3
  rw [show (tl s).length - 3 + 1 = (tl s).length - 2 by omega] at htr
  simp only [Bool.or_eq_false_iff, Bool.and_eq_false_iff, Bool.not_eq_false', decide_eq_false_iff_not, bne_eq_false_iff_eq, beq_eq_false_iff_ne]
  refine ⟨⟨⟨by omega, hg⟩, ?_⟩, htr⟩
  rcases h3 with h3 | h3
  · exact .inl (by omega)
  · refine .inr ?_
    intro e1
    apply h3
    cases hq : tl s with
    | nil => rw [hq] at e1; cases e1
    | cons a b =>
      rw [hq] at e1 hk0
      obtain ⟨j, hj⟩ : ∃ j, (a :: b).length - 3 = j + 1 := ⟨(a :: b).length - 3 - 1, by omega⟩
      rw [hj, List.take_succ_cons]; exact e1
theorem dg3_len (t : List UInt8) (h : 4 ≤ t.length) : (dg3 t).length = t.length - 1 := by
  unfold dg3
  rw [List.length_append, List.length_take, List.length_drop]; omega
/-- money.Parse, whatever the text -/
theorem parG_any (s : ByteArray) (hs : s.size ≤ 1000) : ParG s (rV s) (rE s) := by
  unfold rV rE
  rcases parse_ways s hs with ⟨h1, h2⟩ | ⟨h1, h2, h3⟩ | ⟨h1, u, h2, h3⟩
  · have hb : rBad (tl s) = true := by
      cases hq : rBad (tl s) with
      | true => rfl
      | false =>
        have := (pbad_of_good s hq).1
        rw [pBadB_of h1] at this
        cases this
    rw [if_pos hb, if_pos hb]
    exact h2
  all_goals
    have hp : pBadB (cutD (pR s)).1 (cutD (pR s)).2.1 (cutD (pR s)).2.2 = false := by
      cases hq : pBadB (cutD (pR s)).1 (cutD (pR s)).2.1 (cutD (pR s)).2.2 with
      | false => rfl
      | true => exact absurd (pBad_of hq) h1
    have hb := good_of_pbad s hp
    obtain ⟨_, h4, ha, _⟩ := good_cut s hb
    rw [(pbad_of_good s hb).2, parseB_dig _ (fun e => by have := dg3_len (tl s) h4; rw [e] at this; simp at this; omega) (List.all_eq_true.1 ha)] at h2
    rw [if_neg (by rw [hb]; exact Bool.false_ne_true), if_neg (by rw [hb]; exact Bool.false_ne_true)]
    generalize vl 0 (dg3 (tl s)) = v at *
    split at h2
  · cases h2
  · have e : 2 ^ 64 - 1 = 18446744073709551615 := rfl
    unfold pV pE
    rw [if_pos (by omega), if_pos (by omega)]
    exact h3
  · cases h2
    exact h3
  · cases h2
end Go.Proofs.YtikjnfghlohjkaaDoor
