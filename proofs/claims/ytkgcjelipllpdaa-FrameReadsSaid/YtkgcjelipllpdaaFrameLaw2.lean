/- What is made is read. -/
import Derived.Test.YtkgcjelipllpdaaFrameLaw
namespace Go.Proofs.Ytkgcjelipllpdaa
open Go.RowKit

theorem byt_step (n i : Nat) : n / 256 ^ (i + 1) * 256 + (byt64 n i).toNat = n / 256 ^ i := by
  unfold byt64
  rw [UInt8.toNat_ofNat', Nat.pow_succ, ← Nat.div_div_eq_div_mul]
  generalize n / 256 ^ i = x
  simp only [Nat.reducePow]
  omega
theorem fold_be4 (n z : Nat) (hz : z = n / 256 ^ 4) : (((z * 256 + (byt64 n 3).toNat) * 256 + (byt64 n 2).toNat) * 256 + (byt64 n 1).toNat) * 256 + (byt64 n 0).toNat = n := by
  subst hz
  rw [byt_step n 3, byt_step n 2, byt_step n 1, byt_step n 0, Nat.pow_zero, Nat.div_one]
theorem num_be4 (n : Nat) (h : n < 4294967296) : num (be4 n) = n := fold_be4 n 0 (by rw [Nat.div_eq_of_lt (by simpa using h)])
theorem fold_be8 (n z : Nat) (hz : z = n / 256 ^ 8) : (((((((z * 256 + (byt64 n 7).toNat) * 256 + (byt64 n 6).toNat) * 256 + (byt64 n 5).toNat) * 256 + (byt64 n 4).toNat) * 256 + (byt64 n 3).toNat) * 256 + (byt64 n 2).toNat) * 256 + (byt64 n 1).toNat) * 256 + (byt64 n 0).toNat = n := by
  subst hz
  rw [byt_step n 7, byt_step n 6, byt_step n 5, byt_step n 4, byt_step n 3, byt_step n 2, byt_step n 1, byt_step n 0, Nat.pow_zero, Nat.div_one]
theorem num_be8 (n : Nat) (h : n < 18446744073709551616) : num (be8 n) = n := fold_be8 n 0 (by rw [Nat.div_eq_of_lt (by simpa using h)])

theorem low_four (c : BitVec 32) : lowN (four c) = c := by
  have h := b32lt (rev c)
  unfold lowN
  rw [← be4_rev, num_be4 _ h, BitVec.ofNat_toNat, BitVec.setWidth_eq, rev_rev]
theorem sl_mid (p m r : List UInt8) (a n : Nat) (ha : a = p.length) (hn : n = m.length) : sl (p ++ (m ++ r)) a n = m := by
  subst ha hn
  unfold sl
  rw [List.drop_left, List.take_left]

/-- a frame that was made is read wherever it stands -/
theorem read_made (p l r : List UInt8) (q : Nat) (hq : q < 1048576) (h1 : 1 ≤ l.length) (h2 : l.length ≤ 4096) :
    fE (p ++ (frm q l ++ r)) p.length = 0 ∧ fN (p ++ (frm q l ++ r)) p.length = l.length ∧ fQ (p ++ (frm q l ++ r)) p.length = q ∧ sl (p ++ (frm q l ++ r)) (p.length + 16) l.length = l := by
  obtain ⟨c, hc⟩ : ∃ c, crc (head l.length q ++ l) = c := ⟨_, rfl⟩
  have hf : frm q l = be4 l.length ++ be8 q ++ four c ++ l := by unfold frm; rw [hc]; rfl
  have hL : (p ++ (frm q l ++ r)).length = p.length + 16 + l.length + r.length := by
    rw [hf]; simp only [List.length_append, length_be4, length_be8, length_four]; omega
  have s1 : sl (p ++ (frm q l ++ r)) p.length 4 = be4 l.length := by
    rw [hf]; simp only [List.append_assoc]; exact sl_mid _ _ _ _ _ rfl rfl
  have s2 : sl (p ++ (frm q l ++ r)) (p.length + 4) 8 = be8 q := by
    rw [hf]
    have : p ++ (be4 l.length ++ be8 q ++ four c ++ l ++ r) = (p ++ be4 l.length) ++ (be8 q ++ (four c ++ (l ++ r))) := by simp only [List.append_assoc]
    rw [this]; exact sl_mid _ _ _ _ _ (by rw [List.length_append, length_be4]) rfl
  have s3 : sl (p ++ (frm q l ++ r)) (p.length + 12) 4 = four c := by
    rw [hf]
    have : p ++ (be4 l.length ++ be8 q ++ four c ++ l ++ r) = (p ++ be4 l.length ++ be8 q) ++ (four c ++ (l ++ r)) := by simp only [List.append_assoc]
    rw [this]; exact sl_mid _ _ _ _ _ (by rw [List.length_append, List.length_append, length_be4, length_be8]) rfl
  have s4 : sl (p ++ (frm q l ++ r)) (p.length + 16) l.length = l := by
    rw [hf]
    have : p ++ (be4 l.length ++ be8 q ++ four c ++ l ++ r) = (p ++ be4 l.length ++ be8 q ++ four c) ++ (l ++ r) := by simp only [List.append_assoc]
    rw [this]; exact sl_mid _ _ _ _ _ (by simp only [List.length_append, length_be4, length_be8, length_four]) rfl
  have e1 : fN (p ++ (frm q l ++ r)) p.length = l.length := by unfold fN; rw [s1, num_be4 _ (by omega)]
  have e2 : fQ (p ++ (frm q l ++ r)) p.length = q := by unfold fQ; rw [s2, num_be8 _ (by omega)]
  have e3 : fSum (p ++ (frm q l ++ r)) p.length := by
    unfold fSum
    rw [e1, s4, s3, low_four, ← hc]
    have s5 : sl (p ++ (frm q l ++ r)) p.length 12 = head l.length q := by
      rw [show (12 : Nat) = 4 + 8 from rfl, ← sl_append, s1, s2]; rfl
    rw [s5]
  refine ⟨?_, e1, e2, s4⟩
  unfold fE
  rw [if_neg (by omega), if_neg (not_not_intro (by unfold fOk; rw [e1, e2]; omega)), e1, if_neg (by omega), if_neg (not_not_intro e3)]

end Go.Proofs.Ytkgcjelipllpdaa
