/- Walks over package crc: run over a string. -/
import Derived.Test.YtkgcjelipllpdaaCrcW
namespace Go.Proofs.Ytkgcjelipllpdaa
open Go.RowKit

def ix (c : BitVec 32) (b : UInt8) : Nat := (c.toNat % 256) ^^^ b.toNat
theorem ix_lt (c : BitVec 32) (b : UInt8) : ix c b < 256 := Nat.xor_lt_two_pow (n := 8) (by omega) (b8lt b)
@[go_sem] theorem g_ix (c : BitVec 32) (b : UInt8) : bits .xor .u8 ((c.toNat : Int) % 256) (b.toNat : Int) = ((ix c b : Nat) : Int) := by
  have e : ((c.toNat : Int) % 256) = ((c.toNat % 256 : Nat) : Int) := by omega
  rw [e, u8_xor_nat _ _ (by omega) (b8lt b)]; rfl

theorem shl_up (k : Nat) : ∀ x : BitVec 32, k ≤ 8 → x.toNat < 16777216 → up k (x <<< k) = x := by
  induction k with
  | zero => intro x _ _; show x <<< 0 = x; simp
  | succ k ih =>
    intro x hk hx
    have hx' : x.toNat * 2 ^ k < 2 ^ 31 := by
      have h1 : 2 ^ k ≤ 2 ^ 7 := Nat.pow_le_pow_right (by omega) (by omega)
      have h2 : x.toNat * 2 ^ k ≤ x.toNat * 2 ^ 7 := Nat.mul_le_mul_left _ h1
      omega
    have ex : x.toNat * 2 ^ (k + 1) = x.toNat * 2 ^ k * 2 := by rw [Nat.pow_succ, Nat.mul_assoc]
    have e : step (x <<< (k + 1)) = x <<< k := by
      unfold step
      have h0 : (x <<< (k + 1)).getLsbD 0 = false := by rw [BitVec.getLsbD_shiftLeft]; simp
      rw [h0]
      simp only [Bool.false_eq_true, if_false]
      apply BitVec.eq_of_toNat_eq
      rw [BitVec.toNat_ushiftRight, BitVec.toNat_shiftLeft, BitVec.toNat_shiftLeft, Nat.shiftLeft_eq, Nat.shiftLeft_eq, Nat.shiftRight_eq_div_pow, ex, Nat.mod_eq_of_lt (by omega), Nat.mod_eq_of_lt (by omega)]
      omega
    show up k (step (x <<< (k + 1))) = x
    rw [e, ih x (by omega) hx]

theorem split8 (c : BitVec 32) : c = BitVec.ofNat 32 (c.toNat % 256) ^^^ (c >>> 8) <<< 8 := by
  apply BitVec.eq_of_getLsbD_eq
  intro i hi
  rw [BitVec.getLsbD_xor, BitVec.getLsbD_shiftLeft, BitVec.getLsbD_ushiftRight, BitVec.getLsbD_ofNat, show (256 : Nat) = 2 ^ 8 from rfl, Nat.testBit_mod_two_pow]
  by_cases h : i < 8
  · simp [h, hi, BitVec.testBit_toNat]
  · simp [h, hi, show 8 + (i - 8) = i by omega]
theorem ext_lt (b : UInt8) : (ext b).toNat = b.toNat := by
  unfold ext; rw [BitVec.toNat_ofNat]; have := b8lt b; omega
theorem ix_ext (c : BitVec 32) (b : UInt8) : BitVec.ofNat 32 (ix c b) = BitVec.ofNat 32 (c.toNat % 256) ^^^ ext b := by
  apply BitVec.eq_of_toNat_eq
  have h1 := ix_lt c b
  rw [BitVec.toNat_xor, BitVec.toNat_ofNat, BitVec.toNat_ofNat, ext_lt, Nat.mod_eq_of_lt (a := ix c b) (by omega), Nat.mod_eq_of_lt (a := c.toNat % 256) (by omega)]
  rfl
theorem tab_upd (c : BitVec 32) (b : UInt8) : tab (ix c b) ^^^ c >>> 8 = upd c b := by
  have h := split8 c
  have h8 : (c >>> 8).toNat < 16777216 := by rw [BitVec.toNat_ushiftRight, Nat.shiftRight_eq_div_pow]; have := b32lt c; omega
  have h3 := shl_up 8 (c >>> 8) (by omega) h8
  unfold tab upd
  rw [ix_ext, up_xor, up_xor]
  have h4 : up 8 c = up 8 (BitVec.ofNat 32 (c.toNat % 256)) ^^^ c >>> 8 := by
    have := congrArg (up 8) h
    rw [up_xor, h3] at this
    exact this
  rw [h4]
  ac_rfl

theorem take_snoc (s : ByteArray) (k : Nat) (h : k < s.size) : s.data.toList.take (k + 1) = s.data.toList.take k ++ [s[k]] := by
  rw [List.take_succ_eq_append_getElem (by simpa using h)]; rfl
theorem run_snoc (c : BitVec 32) (s : ByteArray) (k : Nat) (h : k < s.size) : run c (s.data.toList.take (k + 1)) = upd (run c (s.data.toList.take k)) s[k] := by
  rw [take_snoc s k h, run_append]; rfl

set_option maxRecDepth 100000 in
set_option maxHeartbeats 400000 in
theorem run_str (c : BitVec 32) (s : ByteArray) (w : World) (hs : s.size ≤ maxLen) :
    Calls Try.prog 51 #[.agg (u32s 256 tab), .int .u32 c.toNat, .string s] w
      fun e w' => e = .returned (.int .u32 (run c s.data.toList).toNat) ∧ Below w.heap.size w w' := by
  unfold maxLen at hs
  go_enter Try.func51, Try.ntmps51
  go_wp2_with fail
  go_loop [1, 10] (fun x i => ∃ k : Nat, k ≤ s.size ∧ i = .int .i64 k ∧ x = .int .u32 (run c (s.data.toList.take k)).toNat) (fun _ i => s.size - (intOf i).toNat)
  case atStart => exact ⟨0, Nat.zero_le _, rfl, rfl⟩
  case round =>
    obtain ⟨k, hk, rfl, rfl⟩ := hrel
    by_cases hlt : k < s.size
    · have hix := ix_lt (run c (s.data.toList.take k)) s[k]
      have hsn := run_snoc c s k hlt
      rw [← tab_upd] at hsn
      have HS := Lib.hid hsn
      clear hsn
      go_wp2_with fail
      go_round
      case rel => exact ⟨k + 1, by omega, by go_num, by rw [HS.out, ← g_xor, ← shr8]⟩
      case measure => simp [intOf]; omega
    · go_wp2_with fail
      go_ret
      exact ⟨ret_int (by rw [List.take_of_length_le (by simp; omega)]), (Below.refl _ _).alloc (Nat.le_refl _) _⟩

end Go.Proofs.Ytkgcjelipllpdaa
