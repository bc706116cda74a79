/- A segment's file's name, as a list of bytes. -/
import Derived.Test.YtaonjbkkgeiniaaGreatDoorMonL
import Derived.Lib.Strings
namespace Go.Proofs.YtaonjbkkgeiniaaGreatDoor
open Go.Lib

/-- so many digits -/
def fx : Nat → Nat → List UInt8
  | 0, _ => []
  | k + 1, n => fx k (n / 10) ++ [UInt8.ofNat (48 + n % 10)]
theorem fx_len : ∀ (k n : Nat), (fx k n).length = k
  | 0, _ => rfl
  | k + 1, n => by show (fx k (n / 10) ++ [_]).length = _; rw [List.length_append, fx_len k]; rfl
theorem fx_dig : ∀ (k n : Nat), ∀ b ∈ fx k n, isD b = true
  | 0, _, b, hb => by cases hb
  | k + 1, n, b, hb => by
    rcases List.mem_append.1 hb with hb | hb
    · exact fx_dig k _ b hb
    · rw [List.mem_singleton.1 hb, isD_iff, dig_nat _ (by omega)]; omega
theorem fx_vl : ∀ (k n : Nat), n < 10 ^ k → vl 0 (fx k n) = n
  | 0, n, h => by
    have : n = 0 := by simpa using h
    rw [this]; rfl
  | k + 1, n, h => by
    show vl 0 (fx k (n / 10) ++ [_]) = n
    rw [vl_concat, fx_vl k (n / 10) (by rw [Nat.pow_succ] at h; omega), dig_nat _ (by omega)]
    omega
theorem vl_lt : ∀ (k : Nat) (l : List UInt8), l.length = k → (∀ b ∈ l, isD b = true) → vl 0 l < 10 ^ k
  | 0, l, h, _ => by rw [List.length_eq_zero_iff.1 h]; show 0 < 10 ^ 0; omega
  | k + 1, l, h, hd => by
    have hne : l ≠ [] := fun e => by rw [e] at h; cases h
    obtain ⟨l', d, rfl⟩ : ∃ l' d, l = l' ++ [d] := ⟨l.dropLast, l.getLast hne, (List.dropLast_concat_getLast hne).symm⟩
    have ih := vl_lt k l' (by rw [List.length_append, List.length_singleton] at h; omega) (fun b hb => hd b (List.mem_append_left _ hb))
    have hdd := (isD_iff d).1 (hd d (List.mem_append_right _ (List.mem_singleton.2 rfl)))
    rw [vl_concat, Nat.pow_succ]
    omega
theorem fx_back : ∀ (k : Nat) (l : List UInt8), l.length = k → (∀ b ∈ l, isD b = true) → fx k (vl 0 l) = l
  | 0, l, h, _ => by rw [List.length_eq_zero_iff.1 h]; rfl
  | k + 1, l, h, hd => by
    have hne : l ≠ [] := fun e => by rw [e] at h; cases h
    obtain ⟨l', d, rfl⟩ : ∃ l' d, l = l' ++ [d] := ⟨l.dropLast, l.getLast hne, (List.dropLast_concat_getLast hne).symm⟩
    have hdd := hd d (List.mem_append_right _ (List.mem_singleton.2 rfl))
    have hd2 := (isD_iff d).1 hdd
    have ih := fx_back k l' (by rw [List.length_append, List.length_singleton] at h; omega) (fun b hb => hd b (List.mem_append_left _ hb))
    rw [vl_concat]
    show fx k ((vl 0 l' * 10 + (d.toNat - 48)) / 10) ++ [UInt8.ofNat (48 + (vl 0 l' * 10 + (d.toNat - 48)) % 10)] = _
    rw [show (vl 0 l' * 10 + (d.toNat - 48)) / 10 = vl 0 l' by omega, show (vl 0 l' * 10 + (d.toNat - 48)) % 10 = d.toNat - 48 by omega, ih, dig_back d hdd]
theorem fx_zero : ∀ k : Nat, fx k 0 = List.replicate k 48
  | 0 => rfl
  | k + 1 => by
    show fx k (0 / 10) ++ [UInt8.ofNat (48 + 0 % 10)] = _
    rw [show 0 / 10 = 0 from rfl, fx_zero k, List.replicate_succ']
    rfl
/-- a number with noughts ahead -/
theorem fx_pad : ∀ (k n : Nat), n < 10 ^ (k + 1) → List.replicate (k + 1 - nDigits n) 48 ++ decDigits n = fx (k + 1) n
  | 0, n, h => by
    have h10 : n < 10 := by simpa using h
    rw [nDigits_small h10, decDigits_one h10]
    show List.replicate 0 48 ++ _ = [] ++ [UInt8.ofNat (48 + n % 10)]
    rw [show n % 10 = n by omega]
    rfl
  | k + 1, n, h => by
    by_cases h10 : n < 10
    · rw [nDigits_small h10, decDigits_one h10]
      show _ = fx (k + 1) (n / 10) ++ [UInt8.ofNat (48 + n % 10)]
      rw [show n / 10 = 0 by omega, fx_zero, show n % 10 = n by omega]
      rfl
    · have ih := fx_pad k (n / 10) (by rw [Nat.pow_succ] at h; omega)
      rw [nDigits_big h10, dec_big h10]
      show _ = fx (k + 1) (n / 10) ++ [UInt8.ofNat (48 + n % 10)]
      rw [← ih, show k + 1 + 1 - (nDigits (n / 10) + 1) = k + 1 - nDigits (n / 10) by omega, List.append_assoc]
theorem nd_le (k n : Nat) (h : n < 10 ^ (k + 1)) : nDigits n ≤ k + 1 := by
  have h1 := congrArg List.length (fx_pad k n h)
  rw [List.length_append, List.length_replicate, decDigits_length, fx_len] at h1
  omega
/-- the name -/
def namL (g n : Nat) : List UInt8 := 115 :: (fx 8 g ++ 45 :: fx 10 n)
theorem nam_len (g n : Nat) : (namL g n).length = 20 := by
  unfold namL
  rw [List.length_cons, List.length_append, List.length_cons, fx_len, fx_len]
def okN (l : List UInt8) : Bool := l.length == 20 && l[0]? == some 115 && l[9]? == some 45 && ((l.drop 1).take 8).all isD && (l.drop 10).all isD && decide (vl 0 (l.drop 10) ≤ 1048576)
def ndG (l : List UInt8) : Nat := vl 0 ((l.drop 1).take 8)
def ndF (l : List UInt8) : Nat := vl 0 (l.drop 10)
theorem okN_nam (g n : Nat) (hg : g ≤ 99999999) (hn : n ≤ 1048576) : okN (namL g n) = true ∧ ndG (namL g n) = g ∧ ndF (namL g n) = n := by
  have e1 : ((namL g n).drop 1).take 8 = fx 8 g := by
    unfold namL
    rw [List.drop_succ_cons, List.drop_zero]
    exact List.take_left' (fx_len 8 g)
  have e2 : (namL g n).drop 10 = fx 10 n := by
    unfold namL
    rw [List.drop_succ_cons, List.drop_append, List.drop_of_length_le (by rw [fx_len]; omega), fx_len]
    rfl
  have e3 : (namL g n)[9]? = some 45 := by
    unfold namL
    rw [List.getElem?_cons_succ, List.getElem?_append_right (by rw [fx_len]; omega), fx_len]
    rfl
  have p8 : (10 : Nat) ^ 8 = 100000000 := by decide
  have p10 : (10 : Nat) ^ 10 = 10000000000 := by decide
  refine ⟨?_, ?_, ?_⟩
  · unfold okN
    rw [e1, e2, e3, nam_len, fx_vl 10 n (by omega)]
    simp only [Bool.and_eq_true, beq_iff_eq, decide_eq_true_eq]
    exact ⟨⟨⟨⟨⟨trivial, rfl⟩, trivial⟩, List.all_eq_true.2 (fx_dig 8 g)⟩, List.all_eq_true.2 (fx_dig 10 n)⟩, hn⟩
  · unfold ndG; rw [e1, fx_vl 8 g (by omega)]
  · unfold ndF; rw [e2, fx_vl 10 n (by omega)]
theorem okN_parts {l : List UInt8} (h : okN l = true) : l = 115 :: (((l.drop 1).take 8) ++ 45 :: l.drop 10) ∧ ((l.drop 1).take 8).length = 8 ∧ (l.drop 10).length = 10 ∧ (∀ b ∈ (l.drop 1).take 8, isD b = true) ∧ (∀ b ∈ l.drop 10, isD b = true) ∧ ndF l ≤ 1048576 := by
  unfold okN at h
  simp only [Bool.and_eq_true, beq_iff_eq, decide_eq_true_eq] at h
  obtain ⟨⟨⟨⟨⟨h1, h2⟩, h3⟩, h4⟩, h5⟩, h6⟩ := h
  refine ⟨?_, by rw [List.length_take, List.length_drop]; omega, by rw [List.length_drop]; omega, List.all_eq_true.1 h4, List.all_eq_true.1 h5, h6⟩
  have hl0 : 0 < l.length := by omega
  have hl9 : 9 < l.length := by omega
  rw [List.getElem?_eq_getElem hl0] at h2
  rw [List.getElem?_eq_getElem hl9] at h3
  have a1 : l = l[0] :: l.drop 1 := by
    have := List.drop_eq_getElem_cons hl0
    rw [List.drop_zero] at this
    exact this
  have a2 : (l.drop 1).drop 8 = l[9] :: l.drop 10 := by rw [List.drop_drop]; exact List.drop_eq_getElem_cons hl9
  have a3 : l.drop 1 = (l.drop 1).take 8 ++ 45 :: l.drop 10 := by
    have := (List.take_append_drop 8 (l.drop 1)).symm
    rw [a2, Option.some.inj h3] at this
    exact this
  rw [← a3]
  rw [Option.some.inj h2] at a1
  exact a1
theorem nam_of_ok {l : List UInt8} (h : okN l = true) : l = namL (ndG l) (ndF l) ∧ ndG l ≤ 99999999 ∧ ndF l ≤ 1048576 := by
  obtain ⟨h1, h2, h3, h4, h5, h6⟩ := okN_parts h
  have p8 : (10 : Nat) ^ 8 = 100000000 := by decide
  have := vl_lt 8 _ h2 h4
  refine ⟨?_, by unfold ndG; omega, h6⟩
  unfold namL ndG ndF
  rw [fx_back 8 _ h2 h4, fx_back 10 _ h3 h5]
  exact h1
theorem nam_inj {g n g' n' : Nat} (hg : g ≤ 99999999) (hn : n ≤ 1048576) (hg' : g' ≤ 99999999) (hn' : n' ≤ 1048576) (h : namL g n = namL g' n') : g = g' ∧ n = n' := by
  obtain ⟨_, a, b⟩ := okN_nam g n hg hn
  obtain ⟨_, a', b'⟩ := okN_nam g' n' hg' hn'
  rw [h] at a b
  exact ⟨a.symm.trans a', b.symm.trans b'⟩
/-- what ParseInt's number is -/
def piV (l : List UInt8) : Int := match parseIntB 64 l with
  | .ok v => v
  | .range => intSat 64 l
  | _ => 0
theorem piV_nil : piV [] = 0 := rfl
theorem piV_dig (l : List UInt8) (hne : l ≠ []) (h : ∀ b ∈ l, isD b = true) (hv : vl 0 l < 9223372036854775808) : parseIntB 64 l = .ok (vl 0 l : Nat) ∧ piV l = (vl 0 l : Nat) := by
  have e : parseIntB 64 l = .ok (vl 0 l : Nat) := by
    cases l with
    | nil => exact absurd rfl hne
    | cons c r =>
      have hc := (isD_iff c).1 (h c (List.mem_cons_self ..))
      have hu := parseB_dig (c :: r) (by simp) h
      rw [if_pos (by omega)] at hu
      unfold parseIntB
      dsimp only
      rw [if_neg (by omega), hu]
      dsimp only
      have e63 : 2 ^ (64 - 1) = 9223372036854775808 := rfl
      rw [e63, if_neg (by omega), if_neg (by omega), if_neg (by omega)]
  refine ⟨e, ?_⟩
  unfold piV
  rw [e]
end Go.Proofs.YtaonjbkkgeiniaaGreatDoor
