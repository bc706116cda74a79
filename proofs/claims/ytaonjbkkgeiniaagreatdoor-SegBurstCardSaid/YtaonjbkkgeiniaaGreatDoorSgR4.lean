/- The checksum over four bytes; two lists that differ in at most four bytes side by side. -/
import Derived.Test.YtaonjbkkgeiniaaGreatDoorB3
namespace Go.Proofs.YtaonjbkkgeiniaaGreatDoor
open Go.RowKit

/-- the checksum of a number's own bytes -/
theorem ext_four (c : BitVec 32) : c = ext (byt c 0) ^^^ (ext (byt c 1)) <<< 8 ^^^ (ext (byt c 2)) <<< 16 ^^^ (ext (byt c 3)) <<< 24 := by
  have hb : ∀ k i, (ext (byt c k)).getLsbD i = (decide (i < 8) && c.getLsbD (8 * k + i)) := by
    intro k i
    unfold ext byt
    rw [BitVec.getLsbD_ofNat, UInt8.toNat_ofNat', show (256 : Nat) ^ k = 2 ^ (8 * k) from by rw [Nat.pow_mul], ← Nat.shiftRight_eq_div_pow, show (2 ^ 8 : Nat) = 2 ^ 8 from rfl, Nat.testBit_mod_two_pow, Nat.testBit_shiftRight, BitVec.testBit_toNat]
    by_cases h : i < 8
    · simp [h, show i < 32 by omega]
    · simp [h]
  apply BitVec.eq_of_getLsbD_eq
  intro i hi
  simp only [BitVec.getLsbD_xor, BitVec.getLsbD_shiftLeft, hb, hi, decide_true, Bool.true_and]
  rcases Nat.lt_or_ge i 8 with h | h
  · simp [h, show i < 16 by omega, show i < 24 by omega]
  rcases Nat.lt_or_ge i 16 with h2 | h2
  · simp [show ¬ i < 8 by omega, show i < 16 by omega, show i < 24 by omega, show i - 8 < 8 by omega, show 8 + (i - 8) = i by omega]
  rcases Nat.lt_or_ge i 24 with h3 | h3
  · simp [show ¬ i < 8 by omega, show ¬ i < 16 by omega, show i < 24 by omega, show ¬ i - 8 < 8 by omega, show i - 16 < 8 by omega, show 16 + (i - 16) = i by omega]
  · simp [show ¬ i < 8 by omega, show ¬ i < 16 by omega, show ¬ i < 24 by omega, show ¬ i - 8 < 8 by omega, show ¬ i - 16 < 8 by omega, show i - 24 < 8 by omega, show 24 + (i - 24) = i by omega]
theorem up_shl8 (b : UInt8) (k : Nat) (h : k ≤ 2) : up 8 ((ext b) <<< (8 * (k + 1))) = (ext b) <<< (8 * k) := by
  have hx := b8lt b
  have e : (ext b) <<< (8 * (k + 1)) = ((ext b) <<< (8 * k)) <<< 8 := by
    rw [← BitVec.shiftLeft_add]; rfl
  rw [e]
  refine shl_up 8 _ (by omega) ?_
  rw [BitVec.toNat_shiftLeft, ext_lt, Nat.shiftLeft_eq]
  have h1 : 2 ^ (8 * k) ≤ 2 ^ 16 := Nat.pow_le_pow_right (by omega) (by omega)
  have h2 : b.toNat * 2 ^ (8 * k) ≤ b.toNat * 2 ^ 16 := Nat.mul_le_mul_left _ h1
  rw [Nat.mod_eq_of_lt (by omega)]
  omega
theorem up32_split (c d e0 e1 e2 e3 : BitVec 32) (e : d = e0 ^^^ e1 <<< 8 ^^^ e2 <<< 16 ^^^ e3 <<< 24) (h1 : up 8 (e1 <<< 8) = e1) (h2 : up 8 (e2 <<< 16) = e2 <<< 8) (h2' : up 8 (e2 <<< 8) = e2)
    (h3 : up 8 (e3 <<< 24) = e3 <<< 16) (h3' : up 8 (e3 <<< 16) = e3 <<< 8) (h3'' : up 8 (e3 <<< 8) = e3) :
    up 8 (up 8 (up 8 (up 8 (c ^^^ e0) ^^^ e1) ^^^ e2) ^^^ e3) = up 32 (c ^^^ d) := by
  have e2' : up 32 (c ^^^ d) = up 8 (up 8 (up 8 (up 8 (c ^^^ d)))) := by rw [← up_add, ← up_add, ← up_add]
  rw [e2', e]
  generalize e1 <<< 8 = x1 at *
  generalize e2 <<< 16 = x2 at *
  generalize e2 <<< 8 = y2 at *
  generalize e3 <<< 24 = x3 at *
  generalize e3 <<< 16 = y3 at *
  generalize e3 <<< 8 = z3 at *
  have k1 : up 8 (c ^^^ (e0 ^^^ x1 ^^^ x2 ^^^ x3)) = up 8 (c ^^^ e0) ^^^ e1 ^^^ y2 ^^^ y3 := by
    rw [up_xor, up_xor, up_xor, up_xor, h1, h2, h3, up_xor]; ac_rfl
  have k2 : ∀ A : BitVec 32, up 8 (A ^^^ y2 ^^^ y3) = up 8 A ^^^ e2 ^^^ z3 := fun A => by rw [up_xor, up_xor, h2', h3']
  have k3 : ∀ A : BitVec 32, up 8 (A ^^^ z3) = up 8 A ^^^ e3 := fun A => by rw [up_xor, h3'']
  rw [k1, k2, k3]
/-- over a word's own four bytes: whatever it is, up 32 of what differs from it -/
theorem run_four (c d : BitVec 32) : run c (four d) = up 32 (c ^^^ d) := by
  show upd (upd (upd (upd c (byt d 0)) (byt d 1)) (byt d 2)) (byt d 3) = _
  unfold upd
  have h1 : up 8 (ext (byt d 1) <<< 8) = ext (byt d 1) <<< 0 := up_shl8 (byt d 1) 0 (by omega)
  have h2 : up 8 (ext (byt d 2) <<< 16) = ext (byt d 2) <<< 8 := up_shl8 (byt d 2) 1 (by omega)
  have h2' : up 8 (ext (byt d 2) <<< 8) = ext (byt d 2) <<< 0 := up_shl8 (byt d 2) 0 (by omega)
  have h3 : up 8 (ext (byt d 3) <<< 24) = ext (byt d 3) <<< 16 := up_shl8 (byt d 3) 2 (by omega)
  have h3' : up 8 (ext (byt d 3) <<< 16) = ext (byt d 3) <<< 8 := up_shl8 (byt d 3) 1 (by omega)
  have h3'' : up 8 (ext (byt d 3) <<< 8) = ext (byt d 3) <<< 0 := up_shl8 (byt d 3) 0 (by omega)
  rw [BitVec.shiftLeft_zero] at h1 h2' h3''
  exact up32_split c d _ _ _ _ (ext_four d) h1 h2 h2' h3 h3' h3''
theorem add_append (c : BitVec 32) (l m : List UInt8) : add c (l ++ m) = add (add c l) m := by unfold add; rw [nt_nt, run_append]
theorem run_inj_right (l : List UInt8) {c d : BitVec 32} (h : run c l = run d l) : c = d := by rw [← bk_run l c, h, bk_run]
theorem run_inj4 (x y : List UInt8) (c : BitVec 32) (hx : x.length = 4) (hy : y.length = 4) (h : run c x = run c y) : x = y := by
  rw [← four_low x hx, ← four_low y hy] at h ⊢
  rw [run_four, run_four] at h
  have e := congrArg (fun z => c ^^^ z) (up_inj _ h)
  simp only [← BitVec.xor_assoc, BitVec.xor_self, BitVec.zero_xor] at e
  rw [e]
theorem run_inj_le4 (x y : List UInt8) (c : BitVec 32) (hx : x.length ≤ 4) (hy : y.length = x.length) (h : run c x = run c y) : x = y := by
  have := run_inj4 (x ++ List.replicate (4 - x.length) 0) (y ++ List.replicate (4 - x.length) 0) c (by rw [List.length_append, List.length_replicate]; omega) (by rw [List.length_append, List.length_replicate]; omega) (by rw [run_append, run_append, h])
  exact List.append_cancel_right this
theorem nt_inj {a b : BitVec 32} (h : nt a = nt b) : a = b := by rw [← nt_nt a, h, nt_nt]
theorem crc_window (a x y z : List UInt8) (hx : x.length ≤ 4) (hy : y.length = x.length) (h : crc (a ++ (x ++ z)) = crc (a ++ (y ++ z))) : x = y := by
  unfold crc add at h
  have h1 := nt_inj h
  rw [run_append, run_append, run_append, run_append] at h1
  exact run_inj_le4 x y _ hx hy (run_inj_right z h1)

/-- a list with other elements from a place on -/
def splice (l : List UInt8) (k : Nat) (x : List UInt8) : List UInt8 := l.take k ++ (x ++ l.drop (k + x.length))
theorem splice_nil (l : List UInt8) (k : Nat) : splice l k [] = l := by unfold splice; simp
theorem splice_len (l : List UInt8) (k : Nat) (x : List UInt8) (h : k + x.length ≤ l.length) : (splice l k x).length = l.length := by
  unfold splice; rw [List.length_append, List.length_append, List.length_take, List.length_drop]; omega
theorem splice_right (a b : List UInt8) (i : Nat) (x : List UInt8) : splice (a ++ b) (a.length + i) x = a ++ splice b i x := by
  unfold splice
  rw [List.take_length_add_append, Nat.add_assoc, List.drop_length_add_append, List.append_assoc]
theorem splice_left (a b : List UInt8) (i : Nat) (x : List UInt8) (h : i + x.length ≤ a.length) : splice (a ++ b) i x = splice a i x ++ b := by
  unfold splice
  rw [List.take_append_of_le_length (by omega), List.drop_append_of_le_length h, List.append_assoc, List.append_assoc]
theorem splice_self (l : List UInt8) (k : Nat) (x : List UInt8) (h : k + x.length ≤ l.length) : ∃ y, y.length = x.length ∧ l = l.take k ++ (y ++ l.drop (k + x.length)) := by
  refine ⟨(l.drop k).take x.length, by rw [List.length_take, List.length_drop]; omega, ?_⟩
  rw [← List.drop_drop, List.take_append_drop, List.take_append_drop]
theorem splice_set (l : List UInt8) (k : Nat) (x : List UInt8) (z : UInt8) (h : k + x.length < l.length) : (splice l k x).set (k + x.length) z = splice l k (x ++ [z]) := by
  unfold splice
  have hk : (l.take k).length = k := by rw [List.length_take]; omega
  obtain ⟨y, r, hd⟩ : ∃ y r, l.drop (k + x.length) = y :: r := by
    cases hd : l.drop (k + x.length) with
    | nil => have := congrArg List.length hd; rw [List.length_drop] at this; simp at this; omega
    | cons y r => exact ⟨y, r, rfl⟩
  have hd1 : l.drop (k + (x ++ [z]).length) = r := by
    rw [List.length_append, ← Nat.add_assoc, ← List.drop_drop, hd]; rfl
  rw [hd, hd1, List.set_append_right _ _ (by omega), hk, Nat.add_sub_cancel_left, List.set_append_right _ _ (Nat.le_refl _), Nat.sub_self]
  simp
theorem crc_splice (a l x z : List UInt8) (k : Nat) (hx : x.length ≤ 4) (hk : k + x.length ≤ l.length) (h : crc (a ++ (splice l k x ++ z)) = crc (a ++ (l ++ z))) : splice l k x = l := by
  obtain ⟨y, hy, e⟩ := splice_self l k x hk
  have h2 : crc ((a ++ l.take k) ++ (x ++ (l.drop (k + x.length) ++ z))) = crc ((a ++ l.take k) ++ (y ++ (l.drop (k + x.length) ++ z))) := by
    have e1 : a ++ (splice l k x ++ z) = (a ++ l.take k) ++ (x ++ (l.drop (k + x.length) ++ z)) := by unfold splice; simp only [List.append_assoc]
    have e2 : a ++ (l ++ z) = (a ++ l.take k) ++ (y ++ (l.drop (k + x.length) ++ z)) := by
      conv => lhs; rw [e]
      simp only [List.append_assoc]
    rw [← e1, ← e2]; exact h
  have := crc_window _ _ _ _ hx hy h2
  subst this
  unfold splice
  exact e.symm

/-- a frame's bytes with whatever number, checksum and payload of these lengths -/
def parts (n : Nat) (q c l : List UInt8) : List UInt8 := be4 n ++ (q ++ (c ++ l))
theorem frm_parts (q : Nat) (l : List UInt8) : frm q l = parts l.length (be8 q) (four (crc (head l.length q ++ l))) l := by
  unfold frm parts
  generalize four (crc (head l.length q ++ l)) = c
  unfold head
  simp only [List.append_assoc]
theorem parts_E (q c l : List UInt8) (hq : q.length = 8) (hc : c.length = 4) (h1 : 1 ≤ l.length) (h2 : l.length ≤ 4096) :
    fE (parts l.length q c l) 0 = if num q < 1048576 then if crc (be4 l.length ++ (q ++ l)) = lowN c then 0 else 42 else 4 := by
  have hL : (parts l.length q c l).length = 16 + l.length := by unfold parts; simp only [List.length_append, length_be4, hq, hc]; omega
  have s1 : sl (parts l.length q c l) 0 4 = be4 l.length := by unfold parts; exact sl_mid [] (be4 l.length) _ _ _ rfl rfl
  have s2 : sl (parts l.length q c l) (0 + 4) 8 = q := sl_mid (be4 l.length) _ _ _ _ rfl hq.symm
  have s3 : sl (parts l.length q c l) (0 + 12) 4 = c := by
    have : parts l.length q c l = (be4 l.length ++ q) ++ (c ++ l) := by unfold parts; simp only [List.append_assoc]
    rw [this]; exact sl_mid _ _ _ _ _ (by rw [List.length_append, length_be4, hq]) hc.symm
  have s4 : sl (parts l.length q c l) (0 + 16) l.length = l := by
    have : parts l.length q c l = (be4 l.length ++ q ++ c) ++ (l ++ []) := by unfold parts; simp only [List.append_assoc, List.append_nil]
    rw [this]; exact sl_mid _ _ _ _ _ (by rw [List.length_append, List.length_append, length_be4, hq, hc]) rfl
  have e1 : fN (parts l.length q c l) 0 = l.length := by unfold fN; rw [s1, num_be4 _ (by omega)]
  have e2 : fQ (parts l.length q c l) 0 = num q := by unfold fQ; rw [s2]
  have s5 : sl (parts l.length q c l) 0 12 = be4 l.length ++ q := by rw [show (12 : Nat) = 4 + 8 from rfl, ← sl_append, s1, s2]
  unfold fE
  rw [if_neg (by omega), e1]
  by_cases hn : num q < 1048576
  · rw [if_pos hn, if_neg (not_not_intro (by unfold fOk; rw [e1, e2]; omega)), if_neg (by omega)]
    have hf : fSum (parts l.length q c l) 0 ↔ crc (be4 l.length ++ (q ++ l)) = lowN c := by unfold fSum; rw [e1, s3, s4, s5, List.append_assoc]
    by_cases hs : crc (be4 l.length ++ (q ++ l)) = lowN c
    · rw [if_pos hs, if_neg (not_not_intro (hf.2 hs))]
    · rw [if_neg hs, if_pos (fun h => hs (hf.1 h))]
  · rw [if_neg hn, if_pos (fun h => hn (by have := h.2; rw [e2] at this; exact this))]

/-- other bytes in the payload -/
theorem burst_payload (q : Nat) (l x : List UInt8) (i : Nat) (hq : q < 1048576) (h1 : 1 ≤ l.length) (h2 : l.length ≤ 4096) (hx : x.length ≤ 4) (hi : i + x.length ≤ l.length) (hne : splice (frm q l) (16 + i) x ≠ frm q l) :
    fE (splice (frm q l) (16 + i) x) 0 = 42 := by
  obtain ⟨c, hc⟩ : ∃ c, crc (head l.length q ++ l) = c := ⟨_, rfl⟩
  have e : splice (frm q l) (16 + i) x = parts l.length (be8 q) (four c) (splice l i x) := by
    rw [frm_parts, hc]
    have : ∀ l', parts l.length (be8 q) (four c) l' = (be4 l.length ++ be8 q ++ four c) ++ l' := fun l' => by unfold parts; simp only [List.append_assoc]
    rw [this, this, ← splice_right]; rfl
  have hl := splice_len l i x hi
  have := parts_E (be8 q) (four c) (splice l i x) rfl rfl (by omega) (by omega)
  rw [hl] at this
  rw [e, this, num_be8 q (by omega), if_pos hq, low_four]
  refine if_neg fun hs => hne ?_
  have hs2 : crc ((be4 l.length ++ be8 q) ++ (splice l i x ++ [])) = crc ((be4 l.length ++ be8 q) ++ (l ++ [])) := by
    rw [List.append_nil, List.append_nil]
    have : crc ((be4 l.length ++ be8 q) ++ l) = c := hc
    rw [this, List.append_assoc]; exact hs
  have hsp := crc_splice _ l x [] i hx hi hs2
  rw [e, hsp, frm_parts, hc]
/-- other bytes in the number -/
theorem burst_number (q : Nat) (l x : List UInt8) (i : Nat) (h1 : 1 ≤ l.length) (h2 : l.length ≤ 4096) (hx : x.length ≤ 4) (hi : i + x.length ≤ 8) (hne : splice (frm q l) (4 + i) x ≠ frm q l) :
    fE (splice (frm q l) (4 + i) x) 0 = 42 ∨ fE (splice (frm q l) (4 + i) x) 0 = 4 := by
  obtain ⟨c, hc⟩ : ∃ c, crc (head l.length q ++ l) = c := ⟨_, rfl⟩
  have e : splice (frm q l) (4 + i) x = parts l.length (splice (be8 q) i x) (four c) l := by
    rw [frm_parts, hc]
    unfold parts
    rw [← splice_left _ _ _ _ (show i + x.length ≤ (be8 q).length from hi), ← splice_right]; rfl
  have hl : (splice (be8 q) i x).length = 8 := splice_len (be8 q) i x hi
  rw [e, parts_E _ (four c) l hl rfl h1 h2, low_four]
  by_cases hn : num (splice (be8 q) i x) < 1048576
  · rw [if_pos hn]
    refine .inl (if_neg fun hs => hne ?_)
    have hs2 : crc (be4 l.length ++ (splice (be8 q) i x ++ l)) = crc (be4 l.length ++ (be8 q ++ l)) := by
      rw [hs]
      have : crc ((be4 l.length ++ be8 q) ++ l) = c := hc
      rw [List.append_assoc] at this
      exact this.symm
    have hsp := crc_splice _ (be8 q) x l i hx hi hs2
    rw [e, hsp, frm_parts, hc]
  · rw [if_neg hn]; exact .inr rfl
/-- other bytes in the checksum -/
theorem burst_sum (q : Nat) (l x : List UInt8) (i : Nat) (hq : q < 1048576) (h1 : 1 ≤ l.length) (h2 : l.length ≤ 4096) (hi : i + x.length ≤ 4) (hne : splice (frm q l) (12 + i) x ≠ frm q l) :
    fE (splice (frm q l) (12 + i) x) 0 = 42 := by
  obtain ⟨c, hc⟩ : ∃ c, crc (head l.length q ++ l) = c := ⟨_, rfl⟩
  have e : splice (frm q l) (12 + i) x = parts l.length (be8 q) (splice (four c) i x) l := by
    rw [frm_parts, hc]
    have : ∀ c', parts l.length (be8 q) c' l = (be4 l.length ++ be8 q) ++ (c' ++ l) := fun c' => by unfold parts; simp only [List.append_assoc]
    rw [this, this, ← splice_left _ _ _ _ (show i + x.length ≤ (four c).length from hi), ← splice_right]; rfl
  have hl : (splice (four c) i x).length = 4 := splice_len (four c) i x hi
  rw [e, parts_E (be8 q) _ l rfl hl h1 h2, num_be8 q (by omega), if_pos hq]
  refine if_neg fun hs => hne ?_
  have hs2 : c = lowN (splice (four c) i x) := by
    rw [← hs, ← hc]; unfold head; rw [List.append_assoc]
  rw [e, frm_parts, hc, ← four_low _ hl, ← hs2]

end Go.Proofs.YtaonjbkkgeiniaaGreatDoor
