/- An amount's text is parsed as it is; what is parsed has that text. -/
import Derived.Test.YtikjnfghlohjkaaDoorMonT
import Derived.Test.YtikjnfghlohjkaaDoorMonE
namespace Go.Proofs.YtikjnfghlohjkaaDoor
open Go.RowKit Go.Shelf Go.Lib

def two2 (m : Nat) : List UInt8 := [UInt8.ofNat (48 + m / 10), UInt8.ofNat (48 + m % 10)]
def sgL (n : Int) : List UInt8 := if n < 0 then [45] else []
theorem dg_list (u : Nat) : (dg u).data.toList = decDigits u := by unfold dg; simp
theorem dg_hundred (m : Nat) (h : m < 100) : ((dg (100 + m)).extract 1 (dg (100 + m)).size).data.toList = two2 m := by
  have e : decDigits (100 + m) = UInt8.ofNat 49 :: two2 m := by
    rw [dec_big (by omega), decDigits_two (by omega) (by omega)]
    unfold two2
    rw [show (100 + m) / 10 / 10 = 1 by omega, show (100 + m) / 10 % 10 = m / 10 by omega, show (100 + m) % 10 = m % 10 by omega]
    rfl
  have hs : (dg (100 + m)).size = 3 := by
    rw [← len_size, dg_list, e]; rfl
  rw [hs, ByteArray.data_extract, Array.toList_extract, dg_list, e]
  rfl
theorem sh_list (n : Int) : (shS n).data.toList = sgL n ++ (decDigits (n.natAbs / 100) ++ 46 :: two2 (n.natAbs % 100)) := by
  unfold shS
  rw [ByteArray.data_append, Array.toList_append, ByteArray.data_append, Array.toList_append, ByteArray.data_append, Array.toList_append, dg_list, dg_hundred _ (by omega)]
  have e : (sgS n).data.toList = sgL n := by
    unfold sgS sgL
    split <;> rfl
  rw [e]
  simp
theorem tp_neg (r : List UInt8) : trimPrefix (45 :: r) [45] = r ∧ hasPrefix (45 :: r) [45] = true := by
  have h : hasPrefix (45 :: r) [45] = true := by unfold hasPrefix; simp [List.isPrefixOf]
  refine ⟨?_, h⟩
  unfold trimPrefix
  rw [if_pos h]; rfl
theorem tp_pos (l : List UInt8) (h : l.head? ≠ some 45) : trimPrefix l [45] = l ∧ hasPrefix l [45] = false := by
  have h1 : hasPrefix l [45] = false := by
    unfold hasPrefix
    cases l with
    | nil => rfl
    | cons a b =>
      have ha : a ≠ 45 := fun e => h (by rw [e]; rfl)
      simp [List.isPrefixOf, Ne.symm ha]
  refine ⟨?_, h1⟩
  unfold trimPrefix
  rw [if_neg (by rw [h1]; exact Bool.false_ne_true)]
theorem tl_eq (s : ByteArray) : tl s = trimPrefix s.data.toList [45] := by unfold tl pR; simp
theorem two2_dig (m : Nat) (h : m < 100) : ∀ b ∈ two2 m, isD b = true := by
  intro b hb
  unfold two2 at hb
  simp only [List.mem_cons, List.not_mem_nil, or_false] at hb
  rcases hb with rfl | rfl
  · rw [isD_iff, dig_nat _ (by omega)]; omega
  · rw [isD_iff, dig_nat _ (by omega)]; omega
theorem canon (W H : List UInt8) (hH : H.length = 2) (hW : W ≠ []) (hd : ∀ b ∈ W ++ H, isD b = true) (hh : W.length = 1 ∨ W.head? ≠ some 48) : rBad (W ++ 46 :: H) = false ∧ dg3 (W ++ 46 :: H) = W ++ H := by
  have hl : (W ++ 46 :: H).length = W.length + 3 := by rw [List.length_append, List.length_cons, hH]
  have hp : 0 < W.length := List.length_pos_iff.2 hW
  have e : dg3 (W ++ 46 :: H) = W ++ H := by
    unfold dg3
    rw [hl, show W.length + 3 - 3 = W.length by omega, List.take_left, show W.length + 3 - 2 = W.length + 1 by omega]
    congr 1
    rw [List.drop_append, List.drop_of_length_le (by omega), show W.length + 1 - W.length = 1 by omega]
    rfl
  refine ⟨?_, e⟩
  unfold rBad
  rw [e, hl]
  simp only [Bool.or_eq_false_iff, Bool.and_eq_false_iff, Bool.not_eq_false', decide_eq_false_iff_not, bne_eq_false_iff_eq, beq_eq_false_iff_ne]
  refine ⟨⟨⟨by omega, ?_⟩, ?_⟩, List.all_eq_true.2 hd⟩
  · rw [show W.length + 3 - 3 = W.length by omega, List.getElem?_append_right (Nat.le_refl _), Nat.sub_self]; rfl
  · rcases hh with hh | hh
    · exact .inl (by omega)
    · exact .inr (by rw [head_app _ hW]; exact hh)
theorem two2_vl (acc m : Nat) (h : m < 100) : vl acc (two2 m) = acc * 100 + m := by
  unfold two2
  rw [vl_cons, vl_cons, vl_nil, dig_nat _ (by omega), dig_nat _ (by omega)]
  omega
theorem head_dec (u : Nat) (r : List UInt8) : (decDigits u ++ r).head? ≠ some 45 := by
  rw [head_app _ (dec_ne u)]
  intro e
  have h1 : (45 : UInt8) ∈ decDigits u := List.mem_of_mem_head? e
  have := (isD_iff 45).1 (dec_dig u 45 h1)
  have h2 : (45 : UInt8).toNat = 45 := rfl
  omega
theorem sh_tl (n : Int) : tl (shS n) = decDigits (n.natAbs / 100) ++ 46 :: two2 (n.natAbs % 100) ∧ pM (shS n) = decide (n < 0) := by
  unfold pM
  rw [tl_eq, sh_list]
  unfold sgL
  by_cases h : n < 0
  · rw [if_pos h, decide_eq_true h]
    exact tp_neg _
  · rw [if_neg h, decide_eq_false h]
    exact tp_pos _ (head_dec _ _)
theorem sh_num (n : Int) : rBad (tl (shS n)) = false ∧ vl 0 (dg3 (tl (shS n))) = n.natAbs := by
  rw [(sh_tl n).1]
  have hm : n.natAbs % 100 < 100 := by omega
  obtain ⟨c1, c2⟩ := canon (decDigits (n.natAbs / 100)) (two2 (n.natAbs % 100)) rfl (dec_ne _) (fun b hb => by
    rcases List.mem_append.1 hb with hb | hb
    · exact dec_dig _ b hb
    · exact two2_dig _ hm b hb) (by
    by_cases h : n.natAbs / 100 < 10
    · left; rw [decDigits_one h]; rfl
    · right; exact dec_head _ (by omega))
  refine ⟨c1, ?_⟩
  rw [c2, vl_append, vl_dec, two2_vl _ _ hm]
  omega
theorem ve_good {s : ByteArray} (h : rBad (tl s) = false) : rV s = pV (pM s) (vl 0 (dg3 (tl s))) ∧ rE s = pE (pM s) (vl 0 (dg3 (tl s))) := by
  unfold rV rE
  rw [if_neg (by rw [h]; exact Bool.false_ne_true), if_neg (by rw [h]; exact Bool.false_ne_true)]
  exact ⟨rfl, rfl⟩
theorem pve_neg (u : Nat) (h0 : u ≠ 0) : pV true u = (if 4611686018427387904 < u then 0 else -(u : Int)) ∧ pE true u = (if 4611686018427387904 < u then 41 else 0) := by
  unfold pV pE
  by_cases h : 4611686018427387904 < u
  · rw [if_pos h, if_pos h, if_pos h, if_pos h]; exact ⟨rfl, rfl⟩
  · rw [if_neg h, if_neg h, if_neg h, if_neg h, if_neg (show ¬ (true = true ∧ u = 0) from fun e => h0 e.2), if_neg (show ¬ (true = true ∧ u = 0) from fun e => h0 e.2), if_pos rfl]; exact ⟨rfl, rfl⟩
theorem pve_pos (u : Nat) : pV false u = (if 4611686018427387904 < u then 0 else (u : Int)) ∧ pE false u = (if 4611686018427387904 < u then 41 else 0) := by
  unfold pV pE
  by_cases h : 4611686018427387904 < u
  · rw [if_pos h, if_pos h, if_pos h, if_pos h]; exact ⟨rfl, rfl⟩
  · rw [if_neg h, if_neg h, if_neg h, if_neg h, if_neg (show ¬ (false = true ∧ u = 0) from fun e => Bool.false_ne_true e.1), if_neg (show ¬ (false = true ∧ u = 0) from fun e => Bool.false_ne_true e.1), if_neg Bool.false_ne_true]; exact ⟨rfl, rfl⟩
/-- what is shown is parsed as it is -/
theorem sh_parse (n : Int) : rV (shS n) = (if 4611686018427387904 < n.natAbs then 0 else n) ∧ rE (shS n) = (if 4611686018427387904 < n.natAbs then 41 else 0) := by
  obtain ⟨h1, h2⟩ := sh_num n
  obtain ⟨e1, e2⟩ := ve_good h1
  rw [e1, e2, h2, (sh_tl n).2]
  by_cases hn : n < 0
  · rw [decide_eq_true hn, (pve_neg n.natAbs (by omega)).1, (pve_neg n.natAbs (by omega)).2, show -(n.natAbs : Int) = n by omega]
    exact ⟨rfl, rfl⟩
  · rw [decide_eq_false hn, (pve_pos n.natAbs).1, (pve_pos n.natAbs).2, show (n.natAbs : Int) = n by omega]
    exact ⟨rfl, rfl⟩
/-- what is parsed has that text -/
theorem parse_sh (s : ByteArray) (h : rE s = 0) : shS (rV s) = s := by
  have hb : rBad (tl s) = false := by
    cases hq : rBad (tl s) with
    | false => rfl
    | true =>
      unfold rE at h
      rw [if_pos hq] at h
      cases h
  obtain ⟨_, h4, ha, hh⟩ := good_cut s hb
  have hg : (tl s)[(tl s).length - 3]? = some 46 := by
    unfold rBad at hb
    simp only [Bool.or_eq_false_iff, bne_eq_false_iff_eq] at hb
    exact hb.1.1.2
  unfold rE at h
  unfold rV
  rw [if_neg (by rw [hb]; exact Bool.false_ne_true)] at h ⊢
  obtain ⟨W, hW⟩ : ∃ W, (tl s).take ((tl s).length - 3) = W := ⟨_, rfl⟩
  obtain ⟨H, hH⟩ : ∃ H, (tl s).drop ((tl s).length - 2) = H := ⟨_, rfl⟩
  have hWl : W.length = (tl s).length - 3 := by rw [← hW, List.length_take]; omega
  have hHl : H.length = 2 := by rw [← hH, List.length_drop]; omega
  have e3 : dg3 (tl s) = W ++ H := by unfold dg3; rw [hW, hH]
  have et : tl s = W ++ 46 :: H := by
    have h5 := List.take_append_drop ((tl s).length - 3) (tl s)
    have hlt : (tl s).length - 3 < (tl s).length := by omega
    rw [List.drop_eq_getElem_cons hlt, hW, show (tl s).length - 3 + 1 = (tl s).length - 2 by omega, hH] at h5
    rw [List.getElem?_eq_getElem hlt] at hg
    rw [Option.some.inj hg] at h5
    exact h5.symm
  have hWne : W ≠ [] := by
    intro e
    rw [e] at hWl
    simp at hWl
    omega
  rw [e3] at h ha ⊢
  have hd := List.all_eq_true.1 ha
  have hWd : ∀ b ∈ W, isD b = true := fun b hb => hd b (List.mem_append_left _ hb)
  have hWh : W.length = 1 ∨ W.head? ≠ some 48 := by
    rcases hh with hh | hh
    · exact .inl (by omega)
    · refine .inr ?_
      rw [et, head_app _ hWne] at hh
      exact hh
  obtain ⟨a, b, rfl⟩ : ∃ a b, H = [a, b] := by
    match H, hHl with
    | [a, b], _ => exact ⟨a, b, rfl⟩
  have hda := (isD_iff a).1 (hd a (by simp))
  have hdb := (isD_iff b).1 (hd b (by simp))
  have hU : vl 0 (W ++ [a, b]) = vl 0 W * 100 + ((a.toNat - 48) * 10 + (b.toNat - 48)) := by
    rw [vl_append, vl_cons, vl_cons, vl_nil]; omega
  have hdec := dec_of_vl W.length W rfl hWne hWd hWh
  generalize vl 0 W = v at *
  rw [hU] at h ⊢
  obtain ⟨U, hUe⟩ : ∃ U, v * 100 + ((a.toNat - 48) * 10 + (b.toNat - 48)) = U := ⟨_, rfl⟩
  rw [hUe] at h ⊢
  have hq : U / 100 = v := by omega
  have hr1 : U % 100 / 10 = a.toNat - 48 := by omega
  have hr2 : U % 100 % 10 = b.toNat - 48 := by omega
  have h2 : two2 (U % 100) = [a, b] := by
    unfold two2
    rw [hr1, hr2, dig_back a (hd a (by simp)), dig_back b (hd b (by simp))]
  have hlist : ∀ n : Int, n.natAbs = U → (shS n).data.toList = sgL n ++ tl s := by
    intro n hn
    rw [sh_list, hn, hq, h2, hdec, et]
  unfold pE at h
  by_cases hf : 4611686018427387904 < U
  · rw [if_pos hf] at h; cases h
  rw [if_neg hf] at h
  unfold pV
  rw [if_neg hf]
  have hsp : s.data.toList = (if pM s = true then [45] else []) ++ tl s := by
    rw [tl_eq]
    unfold pM
    by_cases hh : s.data.toList.head? = some 45
    · cases hq : s.data.toList with
      | nil => rw [hq] at hh; cases hh
      | cons x r =>
        rw [hq] at hh
        obtain rfl : x = 45 := Option.some.inj hh
        rw [(tp_neg r).1, (tp_neg r).2]
        rfl
    · rw [(tp_pos _ hh).1, (tp_pos _ hh).2]
      rfl
  have key : ∀ n : Int, n.natAbs = U → sgL n = (if pM s = true then [45] else []) → shS n = s := by
    intro n h1 h2
    have h3 := hlist n h1
    rw [h2, ← hsp] at h3
    have h4 : (shS n).data = s.data := Array.toList_inj.1 h3
    exact ByteArray.ext h4
  cases hM : pM s with
  | true =>
    rw [hM] at h key
    have hU0 : U ≠ 0 := by
      intro e
      rw [if_pos ⟨rfl, e⟩] at h
      cases h
    rw [if_neg (fun h => hU0 h.2), if_pos rfl]
    exact key _ (by omega) (by unfold sgL; rw [if_pos (by omega), if_pos rfl])
  | false =>
    rw [hM] at h key
    rw [if_neg (fun h => by cases h.1), if_neg (by exact Bool.false_ne_true)]
    exact key _ (by omega) (by unfold sgL; rw [if_neg (by omega), if_neg (by exact Bool.false_ne_true)])
end Go.Proofs.YtikjnfghlohjkaaDoor
