/- The reference's elimination, in plain terms: rows by their highest bits, each with the number that makes it. -/
import Derived.Test.YtdcfefhlhphdiaaCrcForgeW
namespace Go.Proofs.Ytdcfefhlhphdiaa

/-- no bit from c on -/
def below (v : BitVec 32) (c : Nat) : Prop := ∀ i, i < 32 → c ≤ i → v.getLsbD i = false
theorem below_zero {v : BitVec 32} (h : below v 0) : v = 0#32 := by
  apply BitVec.eq_of_getLsbD_eq
  intro i hi
  rw [h i hi (Nat.zero_le _)]; simp
def cnt (R : Nat → BitVec 32) : Nat → Nat
  | 0 => 0
  | n + 1 => cnt R n + if R n = 0#32 then 0 else 1
theorem cnt_le (R : Nat → BitVec 32) (n : Nat) : cnt R n ≤ n := by
  induction n with
  | zero => exact Nat.le_refl _
  | succ n ih => unfold cnt; split <;> omega
theorem cnt_all (R : Nat → BitVec 32) : ∀ n, cnt R n = n → ∀ b, b < n → R b ≠ 0#32 := by
  intro n
  induction n with
  | zero => intro _ b hb; omega
  | succ n ih =>
    intro h b hb
    have hle := cnt_le R n
    unfold cnt at h
    by_cases h0 : R n = 0#32
    · rw [if_pos h0] at h; omega
    · rw [if_neg h0] at h
      by_cases e : b = n
      · subst e; exact h0
      · exact ih (by omega) b (by omega)
theorem cnt_upd_out (R : Nat → BitVec 32) (b : Nat) (v : BitVec 32) : ∀ n, n ≤ b → cnt (fupd R b v) n = cnt R n := by
  intro n
  induction n with
  | zero => intro _; rfl
  | succ n ih =>
    intro h
    unfold cnt
    rw [ih (by omega)]
    have : fupd R b v n = R n := by unfold fupd; rw [if_neg (by omega)]
    rw [this]
theorem cnt_upd (R : Nat → BitVec 32) (b : Nat) (v : BitVec 32) (h0 : R b = 0#32) (hv : v ≠ 0#32) : ∀ n, b < n → cnt (fupd R b v) n = cnt R n + 1 := by
  intro n
  induction n with
  | zero => intro h; omega
  | succ n ih =>
    intro h
    unfold cnt
    by_cases e : b = n
    · subst e
      rw [cnt_upd_out R b v b (Nat.le_refl _), fupd_same, if_neg hv, if_pos h0]
    · rw [ih (by omega)]
      have : fupd R b v n = R n := by unfold fupd; rw [if_neg (by omega)]
      rw [this]
      omega

/-- j rounds are done -/
structure Inv (N j : Nat) (R B : Nat → BitVec 32) : Prop where
  row : ∀ b, b < 32 → R b ≠ 0#32 → (R b).getLsbD b = true ∧ below (R b) (b + 1) ∧ R b = up N (B b) ∧ below (B b) j
  count : cnt R 32 = j
/-- in the round of a number: what is left of it, bits from c on are gone; or it is in its row -/
def Mid (N j c : Nat) (v m : BitVec 32) (R B : Nat → BitVec 32) : Prop :=
  (Inv N j R B ∧ v = up N m ∧ m.getLsbD j = true ∧ below m (j + 1) ∧ below v c) ∨ (v = 0#32 ∧ Inv N (j + 1) R B)
theorem Inv.start (N : Nat) : Inv N 0 (fun _ => 0#32) (fun _ => 0#32) := by
  refine ⟨fun b _ h => absurd rfl h, ?_⟩
  have : ∀ n, cnt (fun _ => 0#32) n = 0 := by
    intro n
    induction n with
    | zero => rfl
    | succ n ih => unfold cnt; rw [ih]; rfl
  exact this 32
theorem bit_one (j i : Nat) (hj : j < 32) (hi : i < 32) : (1#32 <<< j).getLsbD i = decide (i = j) := by
  rw [BitVec.getLsbD_shiftLeft, BitVec.getLsbD_ofNat]
  rcases Nat.lt_trichotomy i j with h | h | h
  · simp [h, Nat.ne_of_lt h]
  · subst h; simp [hi]
  · rw [testBit1 (i - j) (by omega)]; simp [show ¬ i = j by omega]
theorem Mid.start {N j : Nat} {R B : Nat → BitVec 32} (h : Inv N j R B) (hj : j < 32) : Mid N j 32 (up N (1#32 <<< j)) (1#32 <<< j) R B := by
  refine Or.inl ⟨h, rfl, ?_, ?_, ?_⟩
  · rw [bit_one j j hj hj]; simp
  · intro i hi hji; rw [bit_one j i hj hi]; simp; omega
  · intro i hi h2; omega
theorem Mid.nonzero {N j c : Nat} {v m : BitVec 32} {R B : Nat → BitVec 32} (h : Inv N j R B ∧ v = up N m ∧ m.getLsbD j = true ∧ below m (j + 1) ∧ below v c) : v ≠ 0#32 := by
  obtain ⟨_, hv, hm, _, _⟩ := h
  intro e
  rw [e] at hv
  have := up_inj N ((up_zero N).trans hv)
  rw [← this] at hm
  simp at hm
theorem Mid.done {N j : Nat} {v m : BitVec 32} {R B : Nat → BitVec 32} {c : Nat} (h : Mid N j c v m R B) (he : c = 0 ∨ v = 0#32) : Inv N (j + 1) R B := by
  rcases h with h | h
  · exfalso
    refine Mid.nonzero h ?_
    rcases he with he | he
    · subst he; exact below_zero h.2.2.2.2
    · exact he
  · exact h.2
theorem below_pred {v : BitVec 32} {b : Nat} (h : below v (b + 1)) (hb : v.getLsbD b = false) : below v b := by
  intro i hi hbi
  by_cases e : i = b
  · subst e; exact hb
  · exact h i hi (by omega)
theorem below_xor {v u : BitVec 32} {b : Nat} (h : below v b) (h2 : below u b) : below (xr v u) b := by
  intro i hi hbi
  unfold xr
  rw [BitVec.getLsbD_xor, h i hi hbi, h2 i hi hbi]; rfl
theorem below_mono {v : BitVec 32} {b c : Nat} (h : below v b) (hbc : b ≤ c) : below v c := fun i hi hci => h i hi (by omega)
theorem Mid.skip {N j b : Nat} {v m : BitVec 32} {R B : Nat → BitVec 32} (h : Mid N j (b + 1) v m R B) (hb : v.getLsbD b = false) : Mid N j b v m R B := by
  rcases h with ⟨h1, h2, h3, h4, h5⟩ | h
  · exact Or.inl ⟨h1, h2, h3, h4, below_pred h5 hb⟩
  · exact Or.inr h
theorem Mid.open_ {N j c : Nat} {v m : BitVec 32} {R B : Nat → BitVec 32} (h : Mid N j c v m R B) (hv : v ≠ 0#32) : Inv N j R B ∧ v = up N m ∧ m.getLsbD j = true ∧ below m (j + 1) ∧ below v c := by
  rcases h with h | h
  · exact h
  · exact absurd h.1 hv
theorem Mid.insert {N j b : Nat} {v m : BitVec 32} {R B : Nat → BitVec 32} (h : Mid N j (b + 1) v m R B) (hb32 : b < 32) (hb : v.getLsbD b = true) (h0 : R b = 0#32) :
    Mid N j b 0#32 m (fupd R b v) (fupd B b m) := by
  have hv : v ≠ 0#32 := by intro e; rw [e] at hb; simp at hb
  obtain ⟨h1, h2, h3, h4, h5⟩ := h.open_ hv
  refine Or.inr ⟨rfl, ?_, ?_⟩
  · intro d hd hR
    by_cases e : d = b
    · subst e
      rw [fupd_same, fupd_same]
      exact ⟨hb, h5, h2, h4⟩
    · have e1 : fupd R b v d = R d := by unfold fupd; rw [if_neg e]
      have e2 : fupd B b m d = B d := by unfold fupd; rw [if_neg e]
      rw [e1] at hR ⊢
      rw [e2]
      obtain ⟨k1, k2, k3, k4⟩ := h1.row d hd hR
      exact ⟨k1, k2, k3, below_mono k4 (by omega)⟩
  · rw [cnt_upd R b v h0 hv 32 hb32, h1.count]
theorem Mid.reduce {N j b : Nat} {v m : BitVec 32} {R B : Nat → BitVec 32} (h : Mid N j (b + 1) v m R B) (hj : j < 32) (hb32 : b < 32) (hb : v.getLsbD b = true) (h0 : R b ≠ 0#32) :
    Mid N j b (xr v (R b)) (xr m (B b)) R B := by
  have hv : v ≠ 0#32 := by intro e; rw [e] at hb; simp at hb
  obtain ⟨h1, h2, h3, h4, h5⟩ := h.open_ hv
  obtain ⟨k1, k2, k3, k4⟩ := h1.row b hb32 h0
  refine Or.inl ⟨h1, ?_, ?_, ?_, ?_⟩
  · unfold xr; rw [up_xor, ← k3, ← h2]
  · unfold xr; rw [BitVec.getLsbD_xor, h3, k4 j hj (Nat.le_refl _)]; rfl
  · exact below_xor h4 (below_mono k4 (by omega))
  · refine below_pred (below_xor h5 k2) ?_
    unfold xr; rw [BitVec.getLsbD_xor, hb, k1]; rfl

/-- putting it back: what is left, bits from c on are gone -/
def Rest (N c : Nat) (x left w : BitVec 32) : Prop := x = xr left (up N w) ∧ below left c
theorem Rest.start (N : Nat) (x : BitVec 32) : Rest N 32 x x 0#32 := by
  refine ⟨?_, fun i hi h => by omega⟩
  rw [up_zero]; unfold xr; rw [BitVec.xor_zero]
theorem Rest.skip {N b : Nat} {x left w : BitVec 32} (h : Rest N (b + 1) x left w) (hb : left.getLsbD b = false) : Rest N b x left w := ⟨h.1, below_pred h.2 hb⟩
theorem Rest.reduce {N b : Nat} {x left w : BitVec 32} {R B : Nat → BitVec 32} (h : Rest N (b + 1) x left w) (hi : Inv N 32 R B) (hb32 : b < 32) (hb : left.getLsbD b = true) :
    Rest N b x (xr left (R b)) (xr w (B b)) := by
  have h0 := cnt_all R 32 hi.count b hb32
  obtain ⟨k1, k2, k3, _⟩ := hi.row b hb32 h0
  refine ⟨?_, ?_⟩
  · rw [h.1]
    unfold xr
    rw [up_xor, ← k3]
    rw [show left ^^^ R b ^^^ (up N w ^^^ R b) = left ^^^ up N w from by
      rw [show left ^^^ R b ^^^ (up N w ^^^ R b) = left ^^^ up N w ^^^ (R b ^^^ R b) from by ac_rfl, BitVec.xor_self, BitVec.xor_zero]]
  · refine below_pred (below_xor h.2 k2) ?_
    unfold xr; rw [BitVec.getLsbD_xor, hb, k1]; rfl
theorem Rest.done {N : Nat} {x left w : BitVec 32} (h : Rest N 0 x left w) : up N w = x := by
  rw [h.1, below_zero h.2]; unfold xr; rw [BitVec.zero_xor]

/-- other four bytes in the middle -/
theorem crc_mid (h t : List UInt8) (x : BitVec 32) : crc (h ++ four x ++ t) = xr (crc (h ++ four 0#32 ++ t)) (up (32 + 8 * t.length) x) := by
  unfold crc add
  rw [run_append, run_append, run_append _ (h ++ _), run_append _ h, run_four, run_four, BitVec.xor_zero]
  generalize run (nt 0#32) h = y
  rw [up_xor, run_xor, ← up_add]
  unfold xr nt
  generalize run (up 32 y) t = a
  generalize up (32 + 8 * t.length) x = b
  apply BitVec.eq_of_getLsbD_eq
  intro i hi
  simp only [BitVec.getLsbD_xor, BitVec.getLsbD_not, hi, decide_true, Bool.true_and]
  cases a.getLsbD i <;> cases b.getLsbD i <;> rfl
theorem gauss_forge (l : List UInt8) (a : Nat) (want w c0 : BitVec 32) (hc : crc (l.take a ++ four 0#32 ++ l.drop (a + 4)) = c0)
    (h : up (32 + 8 * (l.drop (a + 4)).length) w = xr want c0) : l.take a ++ four w ++ l.drop (a + 4) = forgeL l a want := by
  refine (forge_only l a want w).1 ?_
  rw [crc_mid, hc, h]
  unfold xr
  rw [show c0 ^^^ (want ^^^ c0) = want ^^^ (c0 ^^^ c0) from by ac_rfl, BitVec.xor_self, BitVec.xor_zero]

end Go.Proofs.Ytdcfefhlhphdiaa
