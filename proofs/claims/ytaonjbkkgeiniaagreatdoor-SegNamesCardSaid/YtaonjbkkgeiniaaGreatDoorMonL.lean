/- Digits and the numbers that they spell, as lists of bytes. -/
import Derived.Lib.ItoaNum
import Derived.Lib.ParseIntB
import Derived.Lib.Bytealg
namespace Go.Proofs.YtaonjbkkgeiniaaGreatDoor
open Go.Lib

def isD (b : UInt8) : Bool := decide (48 ≤ b.toNat) && decide (b.toNat ≤ 57)
theorem isD_iff (b : UInt8) : isD b = true ↔ 48 ≤ b.toNat ∧ b.toNat ≤ 57 := by
  unfold isD
  rw [Bool.and_eq_true, decide_eq_true_eq, decide_eq_true_eq]
def vl (acc : Nat) (l : List UInt8) : Nat := l.foldl (fun a b => a * 10 + (b.toNat - 48)) acc
theorem vl_nil (acc : Nat) : vl acc [] = acc := rfl
theorem vl_cons (acc : Nat) (b : UInt8) (l : List UInt8) : vl acc (b :: l) = vl (acc * 10 + (b.toNat - 48)) l := by unfold vl; rw [List.foldl_cons]
theorem vl_append (acc : Nat) (l m : List UInt8) : vl acc (l ++ m) = vl (vl acc l) m := by unfold vl; rw [List.foldl_append]
theorem vl_concat (acc : Nat) (l : List UInt8) (b : UInt8) : vl acc (l ++ [b]) = vl acc l * 10 + (b.toNat - 48) := by rw [vl_append, vl_cons, vl_nil]
theorem vl_ge : ∀ (l : List UInt8) (acc : Nat), acc ≤ vl acc l
  | [], acc => Nat.le_refl _
  | b :: l, acc => by rw [vl_cons]; have := vl_ge l (acc * 10 + (b.toNat - 48)); omega
theorem dig_nat (x : Nat) (h : x < 10) : (UInt8.ofNat (48 + x)).toNat = 48 + x := by rw [UInt8.toNat_ofNat']; omega
theorem dig_back (b : UInt8) (h : isD b = true) : UInt8.ofNat (48 + (b.toNat - 48)) = b := by
  rw [isD_iff] at h
  apply UInt8.toNat_inj.1
  rw [dig_nat _ (by omega)]
  omega
theorem dec_big {u : Nat} (h : ¬ u < 10) : decDigits u = decDigits (u / 10) ++ [UInt8.ofNat (48 + u % 10)] := by rw [decDigits, dif_neg h]
theorem vl_dec (u : Nat) : vl 0 (decDigits u) = u := by
  induction u using Nat.strongRecOn with
  | _ u ih =>
    by_cases h : u < 10
    · rw [decDigits_one h, vl_cons, vl_nil, dig_nat u h]; omega
    · rw [dec_big h, vl_concat, ih (u / 10) (by omega), dig_nat _ (by omega)]; omega
theorem dec_dig (u : Nat) : ∀ b ∈ decDigits u, isD b = true := by
  induction u using Nat.strongRecOn with
  | _ u ih =>
    intro b hb
    by_cases h : u < 10
    · rw [decDigits_one h, List.mem_singleton] at hb
      rw [hb, isD_iff, dig_nat u h]; omega
    · rw [dec_big h, List.mem_append, List.mem_singleton] at hb
      rcases hb with hb | hb
      · exact ih (u / 10) (by omega) b hb
      · rw [hb, isD_iff, dig_nat _ (by omega)]; omega
theorem head_app {α : Type} {l : List α} (m : List α) (h : l ≠ []) : (l ++ m).head? = l.head? := by
  cases l with
  | nil => exact absurd rfl h
  | cons a b => rfl
theorem dec_ne (u : Nat) : decDigits u ≠ [] := by
  intro h
  have h1 := decDigits_length u
  have h2 := nDigits_pos u
  rw [h] at h1
  simp at h1
  omega
/-- no nought ahead -/
theorem dec_head (u : Nat) (h1 : 1 ≤ u) : (decDigits u).head? ≠ some 48 := by
  induction u using Nat.strongRecOn with
  | _ u ih =>
    by_cases h : u < 10
    · rw [decDigits_one h]
      intro e
      have e1 : UInt8.ofNat (48 + u) = 48 := Option.some.inj e
      have e2 := congrArg UInt8.toNat e1
      rw [dig_nat u h] at e2
      have : (48 : UInt8).toNat = 48 := rfl
      omega
    · rw [dec_big h, head_app _ (dec_ne _)]
      exact ih (u / 10) (by omega) (by omega)
theorem vl_pos : ∀ (l : List UInt8), l ≠ [] → (∀ b ∈ l, isD b = true) → l.head? ≠ some 48 → 1 ≤ vl 0 l
  | [], h, _, _ => absurd rfl h
  | b :: l, _, hd, hh => by
    rw [vl_cons]
    have h1 := (isD_iff b).1 (hd b (List.mem_cons_self ..))
    have h2 : b.toNat ≠ 48 := fun e => hh (by rw [List.head?_cons]; exact congrArg some (UInt8.toNat_inj.1 e))
    have := vl_ge l (0 * 10 + (b.toNat - 48))
    omega
theorem dec_of_vl : ∀ (n : Nat) (l : List UInt8), l.length = n → l ≠ [] → (∀ b ∈ l, isD b = true) → (l.length = 1 ∨ l.head? ≠ some 48) → decDigits (vl 0 l) = l := by
  intro n
  induction n with
  | zero => intro l h1 h2; exact absurd (List.length_eq_zero_iff.1 h1) h2
  | succ n ih =>
    intro l hn hne hd hh
    obtain ⟨l', d, rfl⟩ : ∃ l' d, l = l' ++ [d] := ⟨l.dropLast, l.getLast hne, (List.dropLast_concat_getLast hne).symm⟩
    have hdd := hd d (List.mem_append_right _ (List.mem_singleton.2 rfl))
    have hd2 := (isD_iff d).1 hdd
    have hdl : ∀ b ∈ l', isD b = true := fun b hb => hd b (List.mem_append_left _ hb)
    rw [vl_concat]
    by_cases hl : l' = []
    · subst hl
      rw [vl_nil, decDigits_one (by omega), show 0 * 10 + (d.toNat - 48) = d.toNat - 48 by omega, dig_back d hdd]
      rfl
    · have hh2 : l'.head? ≠ some 48 := by
        rcases hh with h | h
        · rw [List.length_append, List.length_singleton] at h
          exact absurd (List.length_eq_zero_iff.1 (by omega)) hl
        · rwa [head_app _ hl] at h
      have hp := vl_pos l' hl hdl hh2
      rw [dec_big (by omega), show (vl 0 l' * 10 + (d.toNat - 48)) / 10 = vl 0 l' by omega, show (vl 0 l' * 10 + (d.toNat - 48)) % 10 = d.toNat - 48 by omega, dig_back d hdd,
        ih l' (by rw [List.length_append, List.length_singleton] at hn; omega) hl hdl (.inr hh2)]
/-- what ParseUint makes of digits -/
theorem parseM_dig : ∀ (l : List UInt8) (acc : Nat), (∀ b ∈ l, isD b = true) → acc ≤ 2 ^ 64 - 1 →
    parseUintM (2 ^ 64 - 1) acc l = if vl acc l ≤ 2 ^ 64 - 1 then .ok (vl acc l) else .range
  | [], acc, _, ha => by rw [vl_nil, if_pos ha]; rfl
  | c :: r, acc, h, ha => by
    have hc := (isD_iff c).1 (h c (List.mem_cons_self ..))
    unfold parseUintM
    rw [if_pos hc, vl_cons]
    have hge := vl_ge r (acc * 10 + (c.toNat - 48))
    have e : 2 ^ 64 - 1 = 18446744073709551615 := rfl
    rw [e] at *
    split
    · rw [if_neg (by omega)]
    · split
      · rw [if_neg (by omega)]
      · rw [← e, parseM_dig r _ (fun b hb => h b (List.mem_cons_of_mem _ hb)) (by omega)]
theorem parseB_dig (l : List UInt8) (hne : l ≠ []) (h : ∀ b ∈ l, isD b = true) : parseUintB 64 l = if vl 0 l ≤ 2 ^ 64 - 1 then .ok (vl 0 l) else .range := by
  unfold parseUintB
  rw [if_neg hne]
  exact parseM_dig l 0 h (by omega)

theorem ib_at : ∀ (l : List UInt8) (c : UInt8) (k : Nat), (∀ b ∈ l.take k, b ≠ c) → l[k]? = some c → indexByte l c = k
  | [], c, k, _, h => by simp at h
  | b :: l, c, 0, _, h => by
    have : b = c := by simpa using h
    subst this
    unfold indexByte
    rw [if_pos (beq_self_eq_true b)]
    rfl
  | b :: l, c, k + 1, h1, h => by
    have hb : b ≠ c := h1 b (by simp)
    have ih := ib_at l c k (fun x hx => h1 x (by rw [List.take_succ_cons]; exact List.mem_cons_of_mem _ hx)) (by simpa using h)
    unfold indexByte
    rw [if_neg (by simpa using hb), ih, if_neg (by simp <;> omega)]
    omega
theorem ib_get : ∀ (l : List UInt8) (c : UInt8) (k : Nat), indexByte l c = k → l[k]? = some c
  | [], c, k, h => by unfold indexByte at h; omega
  | b :: l, c, k, h => by
    unfold indexByte at h
    split at h
    · rename_i hb
      obtain rfl : k = 0 := by omega
      rw [List.getElem?_cons_zero]
      exact congrArg some (by simpa using hb)
    · split at h
      · omega
      · have h5 := indexByte_ge l c
        rename_i hb h2
        have h3 : indexByte l c ≠ -1 := by simpa using h2
        obtain ⟨j, rfl⟩ : ∃ j, k = j + 1 := ⟨k - 1, by omega⟩
        rw [List.getElem?_cons_succ]
        exact ib_get l c j (by omega)
theorem ib_before : ∀ (l : List UInt8) (c : UInt8) (k : Nat), indexByte l c = k → ∀ b ∈ l.take k, b ≠ c
  | [], c, k, h => by unfold indexByte at h; omega
  | b :: l, c, k, h => by
    unfold indexByte at h
    split at h
    · obtain rfl : k = 0 := by omega
      intro x hx
      simp at hx
    · split at h
      · omega
      · have h5 := indexByte_ge l c
        rename_i hb h2
        have h3 : indexByte l c ≠ -1 := by simpa using h2
        obtain ⟨j, rfl⟩ : ∃ j, k = j + 1 := ⟨k - 1, by omega⟩
        intro x hx
        rw [List.take_succ_cons, List.mem_cons] at hx
        rcases hx with rfl | hx
        · simpa using hb
        · exact ib_before l c j (by omega) x hx
end Go.Proofs.YtaonjbkkgeiniaaGreatDoor
