/- The way back over a byte, in plain terms: at which number the table has a highest byte. -/
import Derived.Test.YtdcfefhlhphdiaaCrcR
import Derived.Test.YtdcfefhlhphdiaaCrcSumL
namespace Go.Proofs.Ytdcfefhlhphdiaa

/-- a word's highest byte -/
def top (c : BitVec 32) : Nat := c.toNat / 16777216
theorem top_lt (c : BitVec 32) : top c < 256 := by unfold top; have := b32lt c; omega
def invL : List UInt8 := [0, 65, 195, 130, 134, 199, 69, 4, 77, 12, 142, 207, 203, 138, 8, 73, 154, 219, 89, 24, 28, 93, 223, 158, 215, 150, 20, 85, 81, 16, 146, 211, 117, 52, 182, 247, 243, 178, 48, 113, 56, 121, 251, 186, 190, 255, 125, 60, 239, 174, 44, 109, 105, 40, 170, 235, 162, 227, 97, 32, 36, 101, 231, 166, 234, 171, 41, 104, 108, 45, 175, 238, 167, 230, 100, 37, 33, 96, 226, 163, 112, 49, 179, 242, 246, 183, 53, 116, 61, 124, 254, 191, 187, 250, 120, 57, 159, 222, 92, 29, 25, 88, 218, 155, 210, 147, 17, 80, 84, 21, 151, 214, 5, 68, 198, 135, 131, 194, 64, 1, 72, 9, 139, 202, 206, 143, 13, 76, 149, 212, 86, 23, 19, 82, 208, 145, 216, 153, 27, 90, 94, 31, 157, 220, 15, 78, 204, 141, 137, 200, 74, 11, 66, 3, 129, 192, 196, 133, 7, 70, 224, 161, 35, 98, 102, 39, 165, 228, 173, 236, 110, 47, 43, 106, 232, 169, 122, 59, 185, 248, 252, 189, 63, 126, 55, 118, 244, 181, 177, 240, 114, 51, 127, 62, 188, 253, 249, 184, 58, 123, 50, 115, 241, 176, 180, 245, 119, 54, 229, 164, 38, 103, 99, 34, 160, 225, 168, 233, 107, 42, 46, 111, 237, 172, 10, 75, 201, 136, 140, 205, 79, 14, 71, 6, 132, 197, 193, 128, 2, 67, 144, 209, 83, 18, 22, 87, 213, 148, 221, 156, 30, 95, 91, 26, 152, 217]
def inv (j : Nat) : UInt8 := invL.getD j 0
def atTo : Nat → Nat → UInt8
  | 0 => fun _ => 0
  | k + 1 => fupd (atTo k) (top (tab k)) (UInt8.ofNat k)
theorem inv_top : ∀ i, i < 256 → inv (top (tab i)) = UInt8.ofNat i := by decide +kernel
theorem top_inv : ∀ j, j < 256 → top (tab (inv j).toNat) = j := by decide +kernel
theorem atTo_top (k : Nat) : ∀ i, i < k → k ≤ 256 → atTo k (top (tab i)) = UInt8.ofNat i := by
  induction k with
  | zero => intro i h; omega
  | succ k ih =>
    intro i h hk
    show fupd (atTo k) (top (tab k)) (UInt8.ofNat k) (top (tab i)) = _
    unfold fupd
    by_cases e : top (tab i) = top (tab k)
    · rw [if_pos e]
      rw [← inv_top i (by omega), e, inv_top k (by omega)]
    · rw [if_neg e]
      refine ih i ?_ (by omega)
      by_cases hik : i = k
      · subst hik; exact absurd rfl e
      · omega
theorem atTo_all (j : Nat) (h : j < 256) : atTo 256 j = inv j := by
  have h1 : (inv j).toNat < 256 := b8lt _
  have h2 := atTo_top 256 (inv j).toNat h1 (Nat.le_refl _)
  rw [top_inv j h] at h2
  rw [h2]
  exact UInt8.ofNat_toNat

/-- Go's step back over a byte -/
def bkw (c : BitVec 32) (b : UInt8) : BitVec 32 := xr c (tab (inv (top c)).toNat) <<< 8 ||| ext (x8 (inv (top c)) b)
theorem ext_bit (b : UInt8) (i : Nat) (h : 8 ≤ i) : (ext b).getLsbD i = false := by
  unfold ext
  rw [BitVec.getLsbD_ofNat, Nat.testBit_lt_two_pow (Nat.lt_of_lt_of_le (b8lt b) (Nat.pow_le_pow_right (n := 2) (by omega) h))]
  simp
theorem or_ext (x : BitVec 32) (b : UInt8) : x <<< 8 ||| ext b = x <<< 8 ^^^ ext b := by
  apply BitVec.eq_of_getLsbD_eq
  intro i hi
  rw [BitVec.getLsbD_or, BitVec.getLsbD_xor, BitVec.getLsbD_shiftLeft]
  by_cases h : i < 8
  · simp [h]
  · rw [ext_bit b i (by omega)]; simp
theorem top_xor (a b : BitVec 32) (h : top a = top b) : (a ^^^ b).toNat < 16777216 := by
  have hs : (a ^^^ b).toNat >>> 24 = 0 := by
    rw [BitVec.toNat_xor, Nat.shiftRight_xor_distrib, Nat.shiftRight_eq_div_pow, Nat.shiftRight_eq_div_pow]
    rw [show (2 ^ 24 : Nat) = 16777216 from rfl]
    unfold top at h
    rw [h, Nat.xor_self]
  rw [Nat.shiftRight_eq_div_pow] at hs
  omega
theorem bkw_eq (c : BitVec 32) (b : UInt8) : bkw c b = dn 8 c ^^^ ext b := by
  have ht := top_inv (top c) (top_lt c)
  have h24 := top_xor c (tab (inv (top c)).toNat) ht.symm
  have hup := shl_up 8 (c ^^^ tab (inv (top c)).toNat) (by omega) h24
  have hy : up 8 ((c ^^^ tab (inv (top c)).toNat) <<< 8 ^^^ ext (inv (top c))) = c := by
    rw [up_xor, hup]
    show c ^^^ tab (inv (top c)).toNat ^^^ tab (inv (top c)).toNat = c
    rw [xor_xor_cancel]
  unfold bkw xr
  rw [or_ext, ext_x8]
  have := dn_up 8 ((c ^^^ tab (inv (top c)).toNat) <<< 8 ^^^ ext (inv (top c)))
  rw [hy] at this
  rw [this]
  ac_rfl

@[go_sem] theorem gx_xr (x y : BitVec 32) : bits .xor .u32 (x.toNat : Int) (y.toNat : Int) = ((xr x y).toNat : Int) := g_xor x y
@[go_sem] theorem gx_x8 (x y : UInt8) : bits .xor .u8 (x.toNat : Int) (y.toNat : Int) = ((x8 x y).toNat : Int) := by
  rw [u8_xor_nat _ _ (b8lt x) (b8lt y)]; unfold x8; rw [UInt8.toNat_xor]
theorem g_shl8 (x : BitVec 32) : ((x.toNat : Int) * (256 : Int) % (4294967296 : Int)) = ((x <<< 8).toNat : Int) := by
  rw [BitVec.toNat_shiftLeft, Nat.shiftLeft_eq]; omega
theorem g_ext (b : UInt8) : ((b.toNat : Int) % (4294967296 : Int)) = ((ext b).toNat : Int) := by
  rw [ext_lt]; have := b8lt b; omega
theorem bkw_val (c : BitVec 32) (b : UInt8) :
    bits .or .u32 (((xr c (tab (inv (top c)).toNat)).toNat : Int) * 256 % 4294967296) (((x8 (inv (top c)) b).toNat : Int) % 4294967296) = ((bkw c b).toNat : Int) := by
  rw [g_shl8, g_ext, g_or]; rfl

end Go.Proofs.Ytdcfefhlhphdiaa
