/- Walks over the reference soukref01: shift, over, Add, Of, four, Seal. -/
import Derived.Test.YtdcfefhlhphdiaaRefL
import Derived.Test.YtdcfefhlhphdiaaCrcA
import Derived.Test.YtdcfefhlhphdiaaBurst
namespace Go.Proofs.Ytdcfefhlhphdiaa
open Go.RowKit

theorem bitw_val (v : Bool) : ((bitw v).toNat : Int) = if v then 1 else 0 := by cases v <;> rfl
theorem and1_bitw (c : BitVec 32) : bits .and .u32 (c.toNat : Int) 1 = ((bitw (c.getLsbD 0)).toNat : Int) := by rw [and1, bitw_val]
theorem and1_ne (c : BitVec 32) (v : Bool) : (bits .and .u32 (c.toNat : Int) 1 != ((bitw v).toNat : Int)) = (c.getLsbD 0 != v) := by
  rw [and1_bitw]; cases c.getLsbD 0 <;> cases v <;> rfl

set_option maxHeartbeats 400000 in
theorem shift_any (c : BitVec 32) (v : Bool) (w : World) :
    Calls Try.prog 39 #[.int .u32 c.toNat, .int .u32 (bitw v).toNat] w fun e w' => e = .returned (.int .u32 (sh c v).toNat) ∧ w = w' := by
  have h := and1_ne c v
  cases hb : (c.getLsbD 0 != v)
  · rw [hb] at h
    go_enter Try.func39, Try.ntmps39
    go_wp2
    go_ret
    exact ⟨ret_int (by rw [shr1]; unfold sh; rw [hb]; rfl), rfl⟩
  · rw [hb] at h
    go_enter Try.func39, Try.ntmps39
    go_wp2
    go_ret
    exact ⟨ret_int (by rw [xor_poly]; unfold sh; rw [hb]; rfl), rfl⟩

theorem bit_u8 (b : UInt8) (i : Nat) : bits .and .u32 ((b.toNat : Int) / 2 ^ i) 1 = ((bitw (bit b i)).toNat : Int) := by
  have h := bit_at (ext b) i
  rw [ext_lt] at h
  rw [h, bitw_val]; rfl

set_option maxHeartbeats 400000 in
theorem over_any (c : BitVec 32) (b : UInt8) (w : World) :
    Calls Try.prog 36 #[.int .u32 c.toNat, .int .u8 b.toNat] w fun e w' => e = .returned (.int .u32 (upd c b).toNat) ∧ w = w' := by
  have hb8 := b8lt b
  go_enter Try.func36, Try.ntmps36
  go_wp2_with fail
  go_loop [0, 5] (fun x y => ∃ i : Nat, i ≤ 8 ∧ y = .int .i64 i ∧ x = .int .u32 (ovTo c b i).toNat) (fun _ y => 8 - (intOf y).toNat)
  case atStart => exact ⟨0, by omega, rfl, rfl⟩
  case round =>
    obtain ⟨i, hi, rfl, rfl⟩ := hrel
    by_cases h8 : i < 8
    · have hbit := bit_u8 b i
      go_wp2_with (go_at_call 39; (with_reducible refine (shift_any _ _ _).mono ?_); rintro e w' ⟨rfl, rfl⟩)
      go_round
      case rel => exact ⟨i + 1, by omega, by go_num, rfl⟩
      case measure => simp [intOf]; omega
    · obtain rfl : i = 8 := by omega
      go_wp2_with fail
      go_ret
      exact ⟨ret_int (by rw [ovTo_upd]), rfl⟩

set_option maxHeartbeats 400000 in
theorem radd_str (c : BitVec 32) (s : ByteArray) (w : World) (hs : s.size ≤ 1000000000) :
    Calls Try.prog 25 #[.int .u32 c.toNat, .string s] w fun e w' => e = .returned (.int .u32 (add c s.data.toList).toNat) ∧ w = w' := by
  go_enter Try.func25, Try.ntmps25
  go_wp2_with fail
  go_loop [0, 5] (fun x y => ∃ k : Nat, k ≤ s.size ∧ y = .int .i64 k ∧ x = .int .u32 (run (nt c) (s.data.toList.take k)).toNat) (fun _ y => s.size - (intOf y).toNat)
  case atStart => exact ⟨0, by omega, rfl, rfl⟩
  case round =>
    obtain ⟨k, hk, rfl, rfl⟩ := hrel
    by_cases hlt : k < s.size
    · have HS := Lib.hid (run_snoc (nt c) s k hlt)
      go_wp2_with (go_at_call 36; (with_reducible refine (over_any _ _ _).mono ?_); rintro e w' ⟨rfl, rfl⟩)
      go_round
      case rel => exact ⟨k + 1, by omega, by go_num, by rw [HS.out]⟩
      case measure => simp [intOf]; omega
    · go_wp2_with fail
      go_ret
      exact ⟨ret_int (by rw [List.take_of_length_le (by simp; omega)]; rfl), rfl⟩

set_option maxHeartbeats 400000 in
theorem rof_str (s : ByteArray) (w : World) (hs : s.size ≤ 1000000000) :
    Calls Try.prog 24 #[.string s] w fun e w' => e = .returned (.int .u32 (crc s.data.toList).toNat) ∧ w = w' := by
  go_enter Try.func24, Try.ntmps24
  go_wp2_with fail
  refine (radd_str 0#32 _ _ hs).mono ?_
  rintro e w1 ⟨rfl, rfl⟩
  go_wp2_with fail
  go_ret
  exact ⟨rfl, rfl⟩

set_option maxHeartbeats 400000 in
theorem four_any (c : BitVec 32) (w : World) :
    Calls Try.prog 35 #[.int .u32 c.toNat] w fun e w' => e = .returned (.string (bs (four c))) ∧ Below w.heap.size w w' := by
  have hc := conv_bts (four c) 4 4 rfl w
  rw [bts_four, g_top] at hc
  have ht := top_lt c
  go_enter Try.func35, Try.ntmps35
  go_wp2_with fail
  go_ret
  exact ⟨rfl, bel_alloc (Below.refl _ _) _⟩

set_option maxHeartbeats 400000 in
theorem rseal_str (s : ByteArray) (w : World) (hs : s.size ≤ 1000000000) :
    Calls Try.prog 22 #[.string s] w fun e w' => e = .returned (.string (bs (sealL s.data.toList))) ∧ Below w.heap.size w w' := by
  go_enter Try.func22, Try.ntmps22
  go_wp2_with fail
  refine (rof_str _ _ hs).mono ?_
  rintro e w1 ⟨rfl, rfl⟩
  go_wp2_with fail
  refine (four_any _ _).mono ?_
  rintro e w2 ⟨rfl, hb2⟩
  obtain ⟨x, hx⟩ : ∃ x, x = bs (four (crc s.data.toList)) := ⟨_, rfl⟩
  rw [← hx]
  have hxs : x.size = 4 := by rw [hx]; rfl
  have HX := Lib.hid hx
  clear hx
  go_wp2_with fail
  go_ret
  exact ⟨by rw [HX.out]; rfl, hb2⟩

end Go.Proofs.Ytdcfefhlhphdiaa
