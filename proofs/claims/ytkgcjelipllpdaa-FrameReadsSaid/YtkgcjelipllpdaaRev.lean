/- math/bits.ReverseBytes32. -/
import Derived.Test.YtkgcjelipllpdaaFour
namespace Go.Proofs.Ytkgcjelipllpdaa
open Go.RowKit

def rev (c : BitVec 32) : BitVec 32 := c.extractLsb' 0 8 ++ c.extractLsb' 8 8 ++ c.extractLsb' 16 8 ++ c.extractLsb' 24 8
theorem app8 {n : Nat} (x : BitVec n) (y : BitVec 8) : (x ++ y).toNat = x.toNat * 256 + y.toNat := by
  rw [BitVec.toNat_append, ← Nat.shiftLeft_add_eq_or_of_lt y.isLt, Nat.shiftLeft_eq]
theorem rev_nat (c : BitVec 32) : (rev c).toNat = c.toNat % 256 * 16777216 + c.toNat / 256 % 256 * 65536 + c.toNat / 65536 % 256 * 256 + c.toNat / 16777216 := by
  have h := b32lt c
  unfold rev
  rw [app8, app8, app8]
  simp only [BitVec.extractLsb'_toNat, Nat.shiftRight_eq_div_pow, Nat.reducePow]
  omega
def rv1 (c : BitVec 32) : BitVec 32 := (c >>> 8 &&& 16711935#32) ||| ((c &&& 16711935#32) <<< 8)
theorem shl_val (x : BitVec 32) (k : Nat) : ((x.toNat : Int) * ((2 ^ k : Nat) : Int) % 4294967296) = ((x <<< k).toNat : Int) := by
  rw [BitVec.toNat_shiftLeft, Nat.shiftLeft_eq]; simp
theorem rv1_val (c : BitVec 32) : bits .or .u32 (bits .and .u32 ((c.toNat : Int) / 256) 16711935) (bits .and .u32 (c.toNat : Int) 16711935 * 256 % 4294967296) = ((rv1 c).toNat : Int) := by
  rw [shr8, show (16711935 : Int) = ((16711935 : Nat) : Int) from rfl, g_and_n _ _ (by decide), g_and_n _ _ (by decide)]
  have := shl_val (c &&& BitVec.ofNat 32 16711935) 8
  rw [show (((2 ^ 8 : Nat)) : Int) = 256 from rfl] at this
  rw [this, g_or]; rfl
theorem bit_cases {i : Nat} (h : i < 32) (p : Nat → Prop) (h0 : ∀ j : Fin 32, p j.val) : p i := h0 ⟨i, h⟩
theorem rv2_val (c : BitVec 32) : bits .or .u32 ((c.toNat : Int) / 65536) ((c.toNat : Int) * 65536 % 4294967296) = ((c >>> 16 ||| c <<< 16).toNat : Int) := by
  have h1 := g_shr c 16
  have h2 := shl_val c 16
  rw [show (((2 ^ 16 : Nat)) : Int) = 65536 from rfl] at h1 h2
  rw [h1, h2, g_or]
theorem mask_bit (i : Nat) (h : i < 32) : (16711935#32).getLsbD i = (decide (i < 8) || (decide (16 ≤ i) && decide (i < 24))) := by
  have : ∀ j : Fin 32, (16711935#32).getLsbD j.val = (decide (j.val < 8) || (decide (16 ≤ j.val) && decide (j.val < 24))) := by decide
  exact this ⟨i, h⟩
theorem rv_rev (c : BitVec 32) : (rv1 c >>> 16 ||| rv1 c <<< 16) = rev c := by
  apply BitVec.eq_of_getLsbD_eq
  intro i hi
  unfold rv1 rev
  simp only [BitVec.getLsbD_or, BitVec.getLsbD_ushiftRight, BitVec.getLsbD_shiftLeft, BitVec.getLsbD_and, BitVec.getLsbD_append, BitVec.getLsbD_extractLsb']
  rcases (by omega : i < 8 ∨ (8 ≤ i ∧ i < 16) ∨ (16 ≤ i ∧ i < 24) ∨ (24 ≤ i ∧ i < 32)) with h | h | h | h
  · rw [mask_bit (16 + i) (by omega), mask_bit (16 + i - 8) (by omega)]
    have e1 : 8 + (16 + i) = 24 + i := by omega
    have t1 : ¬ (16 + i < 8) := by omega
    have t2 : 16 + i < 24 := by omega
    have t3 : ¬ (16 ≤ 16 + i - 8) := by omega
    have t4 : ¬ (16 + i - 8 < 8) := by omega
    have t5 : i < 16 := by omega
    simp [e1, t1, t2, t3, t4, t5, h]
  · rw [mask_bit (16 + i) (by omega), mask_bit (16 + i - 8) (by omega)]
    have e1 : 16 + i - 8 = 16 + (i - 8) := by omega
    have t1 : ¬ (16 + i < 8) := by omega
    have t2 : ¬ (16 + i < 24) := by omega
    have t3 : 16 ≤ 16 + i - 8 := by omega
    have t4 : 16 + i - 8 < 24 := by omega
    have t5 : i < 16 := by omega
    have t6 : ¬ i < 8 := by omega
    have t7 : i - 8 < 8 := by omega
    have t8 : 16 + (i - 8) < 32 := by omega
    have t9 : 16 + i < 32 := by omega
    simp [e1, t1, t2, t5, t6, t7, t8, t9]
    omega
  · rw [mask_bit (i - 16) (by omega), mask_bit (i - 16 - 8) (by omega)]
    have e1 : i - 8 - 8 = i - 16 := by omega
    have e2 : 8 + (i - 16) = 8 + (i - 8 - 8) := by omega
    have t1 : i - 16 < 8 := by omega
    have t2 : i - 16 - 8 = 0 := by omega
    have t5 : ¬ i < 16 := by omega
    have t6 : ¬ i < 8 := by omega
    have t7 : ¬ i - 8 < 8 := by omega
    have t8 : i < 32 := by omega
    have t9 : ¬ 16 + i < 32 := by omega
    have t11 : (c.getLsbD (8 + (16 + i))) = false := BitVec.getLsbD_of_ge _ _ (by omega)
    have t10 : i - 8 - 8 < 8 := by omega
    simp [e1, t1, t5, t6, t7, t8, t9, t11]
  · rw [mask_bit (i - 16) (by omega), mask_bit (i - 16 - 8) (by omega)]
    have e1 : i - 16 - 8 = i - 8 - 8 - 8 := by omega
    have t1 : ¬ i - 16 < 8 := by omega
    have t2 : i - 8 - 8 - 8 < 8 := by omega
    have t3 : ¬ 16 ≤ i - 16 := by omega
    have t5 : ¬ i < 16 := by omega
    have t6 : ¬ i < 8 := by omega
    have t7 : ¬ i - 8 < 8 := by omega
    have t8 : i < 32 := by omega
    have t9 : ¬ 16 + i < 32 := by omega
    have t11 : (c.getLsbD (8 + (16 + i))) = false := BitVec.getLsbD_of_ge _ _ (by omega)
    have t10 : ¬ i - 8 - 8 < 8 := by omega
    have t12 : i - 16 < 32 := by omega
    simp [e1, t1, t2, t3, t5, t6, t7, t8, t9, t10, t11, t12]

theorem rev_val (c : BitVec 32) : bits .or .u32 (bits .or .u32 (bits .and .u32 ((c.toNat : Int) / 256) 16711935) (bits .and .u32 (c.toNat : Int) 16711935 * 256 % 4294967296) / 65536)
    (bits .or .u32 (bits .and .u32 ((c.toNat : Int) / 256) 16711935) (bits .and .u32 (c.toNat : Int) 16711935 * 256 % 4294967296) * 65536 % 4294967296) = ((rev c).toNat : Int) := by
  rw [rv1_val, rv2_val, rv_rev]

set_option maxHeartbeats 400000 in
theorem rev_str (c : BitVec 32) (w : World) :
    Calls Try.prog 42 #[.int .u32 c.toNat] w
      fun e w' => e = .returned (.int .u32 (rev c).toNat) ∧ w = w' := by
  have hv := Lib.hid (rev_val c)
  go_enter Try.func42, Try.ntmps42
  go_wp2_with fail
  go_ret
  exact ⟨ret_int hv.out, rfl⟩

end Go.Proofs.Ytkgcjelipllpdaa
