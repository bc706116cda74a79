/- Walks over the reference soukref01: shift, over, Add, Of, for a seat without the Crc laws. -/
import Derived.Test.YtkgcjelipllpdaaCrcOf
import Derived.Test.YtkgcjelipllpdaaStr
namespace Go.Proofs.Ytkgcjelipllpdaa
open Go.RowKit

/-- the pattern's first i bits -/
def lowTo (p : BitVec 32) : Nat → BitVec 32
  | 0 => 0#32
  | i + 1 => if p.getLsbD i then lowTo p i ^^^ 1#32 <<< i else lowTo p i

theorem shl_up1 (k : Nat) : k < 32 → up k (1#32 <<< k) = 1#32 := by
  intro h
  have : ∀ k, k < 32 → up k (1#32 <<< k) = 1#32 := by decide +kernel
  exact this k h
theorem low_bit (p : BitVec 32) : ∀ i j, i ≤ 32 → j < 32 → (lowTo p i).getLsbD j = (decide (j < i) && p.getLsbD j) := by
  intro i
  induction i with
  | zero => intro j _ _; show (0#32).getLsbD j = _; simp
  | succ i ih =>
    intro j hi hj
    have ih' := ih j (by omega) hj
    have h1 : (1#32 <<< i).getLsbD j = decide (j = i) := by
      rw [BitVec.getLsbD_shiftLeft, BitVec.getLsbD_ofNat]
      rcases Nat.lt_trichotomy j i with h | h | h
      · simp [h, Nat.ne_of_lt h]
      · subst h; simp [hj]
      · rw [testBit1 (j - i) (by omega)]; simp [show ¬ j = i by omega]
    unfold lowTo
    cases hp : p.getLsbD i
    · simp only [Bool.false_eq_true, if_false]
      rw [ih']
      by_cases hji : j = i
      · subst hji; simp [hp]
      · simp [show (j < i) = (j < i + 1) from by simp; omega]
    · simp only [if_true]
      rw [BitVec.getLsbD_xor, ih', h1]
      by_cases hji : j = i
      · subst hji; simp [hp]
      · simp [hji, show (j < i) = (j < i + 1) from by simp; omega]
theorem ext_bit (b : UInt8) (i : Nat) (h : 8 ≤ i) : (ext b).getLsbD i = false := by
  unfold ext
  rw [BitVec.getLsbD_ofNat, Nat.testBit_lt_two_pow (Nat.lt_of_lt_of_le (b8lt b) (Nat.pow_le_pow_right (n := 2) (by omega) h))]
  simp
def bitw (v : Bool) : BitVec 32 := if v then 1#32 else 0#32
def sh (c : BitVec 32) (v : Bool) : BitVec 32 := if c.getLsbD 0 != v then c >>> 1 ^^^ poly else c >>> 1
def bit (b : UInt8) (i : Nat) : Bool := (ext b).getLsbD i
def ovTo (c : BitVec 32) (b : UInt8) : Nat → BitVec 32
  | 0 => c
  | i + 1 => sh (ovTo c b i) (bit b i)
theorem bitw_bit0 (v : Bool) : (bitw v).getLsbD 0 = v := by cases v <;> decide
theorem bitw_shr (v : Bool) : bitw v >>> 1 = 0#32 := by cases v <;> decide
theorem sh_step (c : BitVec 32) (v : Bool) : sh c v = step (c ^^^ bitw v) := by
  unfold sh step
  rw [BitVec.getLsbD_xor, bitw_bit0, BitVec.ushiftRight_xor_distrib, bitw_shr, BitVec.xor_zero]
theorem ovTo_eq (c : BitVec 32) (b : UInt8) : ∀ i, i ≤ 32 → ovTo c b i = up i (c ^^^ lowTo (ext b) i) := by
  intro i
  induction i with
  | zero => intro _; show c = c ^^^ 0#32; rw [BitVec.xor_zero]
  | succ i ih =>
    intro hi
    show sh (ovTo c b i) (bit b i) = _
    rw [ih (by omega), sh_step, up_succ]
    congr 1
    rw [show lowTo (ext b) (i + 1) = if (ext b).getLsbD i then lowTo (ext b) i ^^^ 1#32 <<< i else lowTo (ext b) i from rfl]
    unfold bitw bit
    cases (ext b).getLsbD i
    · simp
    · simp only [if_true]
      rw [← BitVec.xor_assoc, up_xor i _ (1#32 <<< i), shl_up1 i (by omega)]
theorem low_ext (b : UInt8) : lowTo (ext b) 8 = ext b := by
  apply BitVec.eq_of_getLsbD_eq
  intro j hj
  rw [low_bit _ 8 j (by omega) hj]
  by_cases h : j < 8
  · simp [h]
  · rw [ext_bit b j (by omega)]; simp
theorem ovTo_upd (c : BitVec 32) (b : UInt8) : ovTo c b 8 = upd c b := by
  rw [ovTo_eq c b 8 (by omega), low_ext]; rfl

theorem bit_at (p : BitVec 32) (i : Nat) : bits .and .u32 ((p.toNat : Int) / 2 ^ i) 1 = if p.getLsbD i then 1 else 0 := by
  have h := g_shr p i
  have e : ((2 ^ i : Nat) : Int) = (2 : Int) ^ i := by simp
  rw [e] at h
  rw [h, and1, BitVec.getLsbD_ushiftRight, Nat.add_zero]
theorem bitw_val (v : Bool) : ((bitw v).toNat : Int) = if v then 1 else 0 := by cases v <;> rfl
theorem and1_bitw (c : BitVec 32) : bits .and .u32 (c.toNat : Int) 1 = ((bitw (c.getLsbD 0)).toNat : Int) := by rw [and1, bitw_val]
theorem and1_ne (c : BitVec 32) (v : Bool) : (bits .and .u32 (c.toNat : Int) 1 != ((bitw v).toNat : Int)) = (c.getLsbD 0 != v) := by
  rw [and1_bitw]; cases c.getLsbD 0 <;> cases v <;> rfl

set_option maxHeartbeats 400000 in
theorem shift_any (c : BitVec 32) (v : Bool) (w : World) :
    Calls Try.prog 56 #[.int .u32 c.toNat, .int .u32 (bitw v).toNat] w fun e w' => e = .returned (.int .u32 (sh c v).toNat) ∧ w = w' := by
  have h := and1_ne c v
  cases hb : (c.getLsbD 0 != v)
  · rw [hb] at h
    go_enter Try.func56, Try.ntmps56
    go_wp2
    go_ret
    exact ⟨ret_int (by rw [shr1]; unfold sh; rw [hb]; rfl), rfl⟩
  · rw [hb] at h
    go_enter Try.func56, Try.ntmps56
    go_wp2
    go_ret
    exact ⟨ret_int (by rw [xor_poly]; unfold sh; rw [hb]; rfl), rfl⟩

theorem bit_u8 (b : UInt8) (i : Nat) : bits .and .u32 ((b.toNat : Int) / 2 ^ i) 1 = ((bitw (bit b i)).toNat : Int) := by
  have h := bit_at (ext b) i
  rw [ext_lt] at h
  rw [h, bitw_val]; rfl

set_option maxHeartbeats 400000 in
theorem over_any (c : BitVec 32) (b : UInt8) (w : World) :
    Calls Try.prog 54 #[.int .u32 c.toNat, .int .u8 b.toNat] w fun e w' => e = .returned (.int .u32 (upd c b).toNat) ∧ w = w' := by
  have hb8 := b8lt b
  go_enter Try.func54, Try.ntmps54
  go_wp2_with fail
  go_loop [0, 5] (fun x y => ∃ i : Nat, i ≤ 8 ∧ y = .int .i64 i ∧ x = .int .u32 (ovTo c b i).toNat) (fun _ y => 8 - (intOf y).toNat)
  case atStart => exact ⟨0, by omega, rfl, rfl⟩
  case round =>
    obtain ⟨i, hi, rfl, rfl⟩ := hrel
    by_cases h8 : i < 8
    · have hbit := bit_u8 b i
      go_wp2_with (go_at_call 56; (with_reducible refine (shift_any _ _ _).mono ?_); rintro e w' ⟨rfl, rfl⟩)
      go_round
      case rel => exact ⟨i + 1, by omega, by go_num, rfl⟩
      case measure => simp [intOf]; omega
    · obtain rfl : i = 8 := by omega
      go_wp2_with fail
      go_ret
      exact ⟨ret_int (by rw [ovTo_upd]), rfl⟩

set_option maxHeartbeats 400000 in
theorem radd_str (c : BitVec 32) (s : ByteArray) (w : World) (hs : s.size ≤ 1000000000) :
    Calls Try.prog 46 #[.int .u32 c.toNat, .string s] w fun e w' => e = .returned (.int .u32 (add c s.data.toList).toNat) ∧ w = w' := by
  go_enter Try.func46, Try.ntmps46
  go_wp2_with fail
  go_loop [0, 5] (fun x y => ∃ k : Nat, k ≤ s.size ∧ y = .int .i64 k ∧ x = .int .u32 (run (nt c) (s.data.toList.take k)).toNat) (fun _ y => s.size - (intOf y).toNat)
  case atStart => exact ⟨0, by omega, rfl, rfl⟩
  case round =>
    obtain ⟨k, hk, rfl, rfl⟩ := hrel
    by_cases hlt : k < s.size
    · have HS := Lib.hid (run_snoc (nt c) s k hlt)
      go_wp2_with (go_at_call 54; (with_reducible refine (over_any _ _ _).mono ?_); rintro e w' ⟨rfl, rfl⟩)
      go_round
      case rel => exact ⟨k + 1, by omega, by go_num, by rw [HS.out]⟩
      case measure => simp [intOf]; omega
    · go_wp2_with fail
      go_ret
      exact ⟨ret_int (by rw [List.take_of_length_le (by simp; omega)]; rfl), rfl⟩

set_option maxHeartbeats 400000 in
theorem rof_str (s : ByteArray) (w : World) (hs : s.size ≤ 1000000000) :
    Calls Try.prog 32 #[.string s] w fun e w' => e = .returned (.int .u32 (crc s.data.toList).toNat) ∧ w = w' := by
  go_enter Try.func32, Try.ntmps32
  go_wp2_with fail
  refine (radd_str 0#32 _ _ hs).mono ?_
  rintro e w1 ⟨rfl, rfl⟩
  go_wp2_with fail
  go_ret
  exact ⟨rfl, rfl⟩


end Go.Proofs.Ytkgcjelipllpdaa
