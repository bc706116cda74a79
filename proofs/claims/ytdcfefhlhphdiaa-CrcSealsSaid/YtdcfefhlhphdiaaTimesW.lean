/- Walks over package crc: times, Both. -/
import Derived.Test.YtdcfefhlhphdiaaTimesL
import Derived.Test.YtdcfefhlhphdiaaCrcBL
namespace Go.Proofs.Ytdcfefhlhphdiaa
open Go.RowKit

def mk (k : Nat) : BitVec 32 := e31 >>> k
theorem mk_half (k : Nat) : ((mk k).toNat : Int) / 2 = ((mk (k + 1)).toNat : Int) := by
  rw [shr1]; unfold mk; rw [BitVec.shiftRight_add]
theorem mk_zero : ((mk 32).toNat : Int) = 0 := by decide
theorem mk_pos (k : Nat) (h : k < 32) : (((mk k).toNat : Int) != 0) = true := by
  have : ∀ k, k < 32 → (((mk k).toNat : Int) != 0) = true := by decide +kernel
  exact this k h
theorem mk_posn (k : Nat) (h : k < 32) : 0 < (mk k).toNat := by
  have : ∀ k, k < 32 → 0 < (mk k).toNat := by decide +kernel
  exact this k h
theorem tm_succ (a b : BitVec 32) (k : Nat) : tm a b (k + 1) = if a.getLsbD (31 - k) then xr (tm a b k) (up k b) else tm a b k := rfl
theorem mk_bit (k : Nat) (h : k < 32) : mk k = 1#32 <<< (31 - k) := by
  have : ∀ k, k < 32 → mk k = 1#32 <<< (31 - k) := by decide +kernel
  exact this k h
theorem and_bit (a : BitVec 32) (i : Nat) (hi : i < 32) : a &&& 1#32 <<< i = if a.getLsbD i then 1#32 <<< i else 0#32 := by
  apply BitVec.eq_of_getLsbD_eq
  intro j hj
  have h1 : (1#32 <<< i).getLsbD j = decide (j = i) := by
    rw [BitVec.getLsbD_shiftLeft, BitVec.getLsbD_ofNat]
    rcases Nat.lt_trichotomy j i with h | h | h
    · simp [h, Nat.ne_of_lt h]
    · subst h; simp [hj]
    · rw [testBit1 (j - i) (by omega)]; simp [show ¬ j = i by omega]
  rw [BitVec.getLsbD_and, h1]
  by_cases e : j = i
  · subst e
    cases a.getLsbD j
    · simp
    · simp only [if_true]; rw [h1]; simp
  · cases a.getLsbD i
    · simp [e]
    · simp only [if_true]; rw [h1]; simp [e]
theorem and_mk (a : BitVec 32) (k : Nat) (h : k < 32) : (bits .and .u32 (a.toNat : Int) ((mk k).toNat : Int) != 0) = a.getLsbD (31 - k) := by
  have h1 := mk_pos k h
  rw [g_and]
  rw [mk_bit k h] at h1 ⊢
  rw [and_bit a (31 - k) (by omega)]
  cases a.getLsbD (31 - k)
  · rfl
  · simp only [if_true]; exact h1

set_option maxHeartbeats 1000000 in
theorem times_any (a b : BitVec 32) (w : World) :
    Calls Try.prog 34 #[.int .u32 a.toNat, .int .u32 b.toNat] w fun e w' => e = .returned (.int .u32 (times a b).toNat) ∧ w = w' := by
  go_enter Try.func34, Try.ntmps34
  go_wp2_with fail
  go_loop [1, 5, 6] (fun y p m => ∃ k : Nat, k ≤ 32 ∧ m = .int .u32 (mk k).toNat ∧ p = .int .u32 (tm a b k).toNat ∧ y = .int .u32 (up k b).toNat) (fun _ _ m => (intOf m).toNat)
  case atStart => exact ⟨0, by omega, rfl, rfl, rfl⟩
  case round =>
    obtain ⟨k, hk, rfl, rfl, rfl⟩ := hrel
    by_cases hlt : k < 32
    · have h1 := mk_pos k hlt
      have h2 := and_mk a k hlt
      have h3 := mk_half k
      have H3 := Lib.hid h3
      clear h3
      cases hb : a.getLsbD (31 - k)
      · rw [hb] at h2
        have HB := Lib.hid hb
        clear hb
        go_wp2_with (go_at_call 38; refine (step_any _ _).mono ?_; rintro e w' ⟨rfl, rfl⟩)
        go_round
        case rel => exact ⟨k + 1, by omega, by rw [H3.out], by rw [tm_succ, HB.out]; rfl, by rw [up_succ]⟩
        case measure => have hp := mk_posn k hlt; simp only [intOf]; omega
      · rw [hb] at h2
        have HB := Lib.hid hb
        clear hb
        go_wp2_with (go_at_call 38; refine (step_any _ _).mono ?_; rintro e w' ⟨rfl, rfl⟩)
        go_round
        case rel => exact ⟨k + 1, by omega, by rw [H3.out], by rw [tm_succ, HB.out]; rfl, by rw [up_succ]⟩
        case measure => have hp := mk_posn k hlt; simp only [intOf]; omega
    · obtain rfl : k = 32 := by omega
      have h1 := mk_zero
      go_wp2_with fail
      go_ret
      exact ⟨rfl, rfl⟩

theorem i64_odd (m : Nat) (h : m < 9223372036854775808) : (bits .and .i64 (m : Int) 1 == 1) = decide (m % 2 = 1) := by
  have e : bits .and .i64 (m : Int) 1 = ((m % 2 : Nat) : Int) := by
    show IntKind.i64.wrap ((BitVec.ofInt 64 (m : Int) &&& BitVec.ofInt 64 1).toNat : Int) = _
    have h1 : (BitVec.ofInt 64 (m : Int)).toNat = m := by rw [BitVec.ofInt_natCast, BitVec.toNat_ofNat]; omega
    have h2 : (BitVec.ofInt 64 (1 : Int)).toNat = 1 := by decide
    rw [BitVec.toNat_and, h1, h2, Nat.and_one_is_mod, IntKind.wrap_i64]
    omega
  rw [e]
  by_cases hm : m % 2 = 1
  · rw [hm]; rfl
  · rw [show m % 2 = 0 by omega]; rfl

theorem e31_val : (2147483648 : Int) = ((up 0 e31).toNat : Int) := by decide
theorem by_val : (8388608 : Int) = ((up 8 e31).toNat : Int) := by decide +kernel
theorem pow_sum (x y : Nat) : times (up x e31) (up y e31) = up (y + x) e31 := by rw [times_pow, ← up_add]

set_option maxHeartbeats 1000000 in
theorem both_any (a b : BitVec 32) (n : Nat) (w : World) (hn : n < 9223372036854775808) :
    Calls Try.prog 20 #[.int .u32 a.toNat, .int .u32 b.toNat, .int .i64 n] w fun e w' => e = .returned (.int .u32 (both a b n).toNat) ∧ w = w' := by
  have HN := Lib.hid hn
  clear hn
  go_enter Try.func20, Try.ntmps20
  go_wp2_with fail
  go_loop [2, 7, 8] (fun m x y => ∃ k i j : Nat, k ≤ n ∧ i + j * k = 8 * n ∧ m = .int .i64 k ∧ x = .int .u32 (up i e31).toNat ∧ y = .int .u32 (up j e31).toNat) (fun m _ _ => (intOf m).toNat)
  case atStart => exact ⟨n, 0, 8, by omega, by omega, rfl, by rw [← e31_val], by rw [← by_val]⟩
  case round =>
    obtain ⟨k, i, j, hk, hij, rfl, rfl, rfl⟩ := hrel
    have HIJ := Lib.hid hij
    have hodd := i64_odd k (by have := HN.out; omega)
    clear hij
    by_cases h0 : k = 0
    · subst h0
      go_wp2_with (go_at_call 34; refine (times_any _ _ _).mono ?_; rintro e w' ⟨rfl, rfl⟩)
      go_ret
      exact ⟨ret_int (by rw [times_pow, show i = 8 * n from by have := HIJ.out; omega]; rfl), rfl⟩
    · have hpos : 0 < k := by omega
      have hd : decide ((0 : Int) < (k : Int)) = true := by simp; omega
      by_cases hm : k % 2 = 1
      · rw [decide_eq_true hm] at hodd
        have HM := Lib.hid hm
        clear hm h0
        go_wp2_with (go_at_call 34; refine (times_any _ _ _).mono ?_; rintro e w' ⟨rfl, rfl⟩)
        go_round
        case rel =>
          refine ⟨k / 2, j + i, j + j, by omega, ?_, by go_num, by rw [pow_sum], by rw [pow_sum]⟩
          have h1 := HIJ.out
          have h2 := HM.out
          have h3 : k = 2 * (k / 2) + 1 := by omega
          rw [h3] at h1
          rw [← h1, Nat.mul_add, Nat.mul_one, Nat.add_mul, ← Nat.mul_assoc, Nat.mul_comm j 2, Nat.mul_assoc]
          omega
        case measure => simp only [intOf]; omega
      · rw [decide_eq_false hm] at hodd
        have HM := Lib.hid hm
        clear hm h0
        go_wp2_with (go_at_call 34; refine (times_any _ _ _).mono ?_; rintro e w' ⟨rfl, rfl⟩)
        go_round
        case rel =>
          refine ⟨k / 2, i, j + j, by omega, ?_, by go_num, rfl, by rw [pow_sum]⟩
          have h1 := HIJ.out
          have h2 := HM.out
          have h3 : k = 2 * (k / 2) := by omega
          rw [h3] at h1
          rw [← h1, Nat.add_mul, ← Nat.mul_assoc, Nat.mul_comm j 2, Nat.mul_assoc]
          omega
        case measure => simp only [intOf]; omega

set_option maxHeartbeats 400000 in
theorem both_neg (a b : BitVec 32) (n : Int) (w : World) (hn : n < 0) :
    Calls Try.prog 20 #[.int .u32 a.toNat, .int .u32 b.toNat, .int .i64 n] w fun e w' => e = .returned (.int .u32 0) ∧ w = w' := by
  go_enter Try.func20, Try.ntmps20
  go_wp2_with fail
  go_ret
  exact ⟨rfl, rfl⟩

end Go.Proofs.Ytdcfefhlhphdiaa
