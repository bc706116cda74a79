/- Walks over the reference soukref01: Back, Open. -/
import Derived.Test.YtdcfefhlhphdiaaRefB
namespace Go.Proofs.Ytdcfefhlhphdiaa
open Go.RowKit

theorem rof_to (d : BitVec 32) (s : ByteArray) (w : World) (hs : s.size ≤ 1000000000) (h : crc s.data.toList = d) :
    Calls Try.prog 24 #[.string s] w fun e w' => e = .returned (.int .u32 d.toNat) ∧ w = w' := by
  subst h; exact rof_str s w hs
theorem four_to (c : BitVec 32) (x : ByteArray) (w : World) (h : bs (four c) = x) :
    Calls Try.prog 35 #[.int .u32 c.toNat] w fun e w' => e = .returned (.string x) ∧ Below w.heap.size w w' := by
  subst h; exact four_any c w
theorem xr_bitw (u v : Bool) : xr (bitw u) (bitw v) = bitw (u != v) := by cases u <;> cases v <;> rfl
theorem back_off (x : BitVec 32) (v : Bool) (h : x.getLsbD 31 = false) : bits .or .u32 ((x.toNat : Int) * 2 % 4294967296) ((xr (bitw false) (bitw v)).toNat : Int) = ((shd x v).toNat : Int) := by
  rw [shl1, g_or, xr_bitw, shd_eq, h]; rfl
theorem back_on (x : BitVec 32) (v : Bool) (h : x.getLsbD 31 = true) : bits .or .u32 (bits .xor .u32 (x.toNat : Int) 3988292384 * 2 % 4294967296) ((xr (bitw true) (bitw v)).toNat : Int) = ((shd x v).toNat : Int) := by
  rw [xor_poly0, shl1, g_or, xr_bitw, shd_eq, h]; rfl

set_option maxHeartbeats 1000000 in
theorem rback_str (c : BitVec 32) (s : ByteArray) (w : World) (hs : s.size ≤ 1000000000) :
    Calls Try.prog 26 #[.int .u32 c.toNat, .string s] w fun e w' => e = .returned (.int .u32 (back c s.data.toList).toNat) ∧ w = w' := by
  go_enter Try.func26, Try.ntmps26
  go_wp2_with fail
  go_loop [0, 5] (fun x y => ∃ j : Nat, j ≤ s.size ∧ y = .int .i64 ((j : Int) - 1) ∧ x = .int .u32 (bk (nt c) (s.data.toList.drop j)).toNat) (fun _ y => (intOf y + 1).toNat)
  case atStart => exact ⟨s.size, by omega, rfl, by rw [List.drop_of_length_le (by simp)]; rfl⟩
  case round =>
    obtain ⟨j, hj, rfl, rfl⟩ := hrel
    by_cases h0 : j = 0
    · subst h0
      go_wp2_with fail
      go_ret
      exact ⟨ret_int rfl, rfl⟩
    · obtain ⟨i, rfl⟩ : ∃ i, j = i + 1 := ⟨j - 1, by omega⟩
      have e1 : ((i + 1 : Nat) : Int) - 1 = (i : Int) := by omega
      rw [e1]
      have hi : i < s.size := by omega
      have hi0 : (0 : Int) ≤ (i : Int) := by omega
      have hi' : (i : Int) < (s.size : Int) := by omega
      have hd : decide ((0 : Int) ≤ (i : Int)) = true := by simp
      clear h0 e1
      obtain ⟨d, hd0⟩ : ∃ d, bk (nt c) (s.data.toList.drop (i + 1)) = d := ⟨_, rfl⟩
      have HD := Lib.hid (show bk (nt c) (s.data.toList.drop i) = bdTo d s[i] 8 by rw [bdTo_eq, ← hd0, bk_snoc _ _ _ hi, bkw_eq])
      rw [hd0]
      clear hd0
      go_wp2_with fail
      go_loop [0, 6] (fun x y => ∃ k : Nat, k ≤ 8 ∧ y = .int .i64 (7 - (k : Int)) ∧ x = .int .u32 (bdTo d s[i] k).toNat) (fun _ y => (intOf y + 1).toNat)
      case atStart => exact ⟨0, by omega, rfl, rfl⟩
      case round =>
        obtain ⟨k, hk, rfl, rfl⟩ := hrel
        by_cases h8 : k = 8
        · subst h8
          go_wp2_with fail
          go_round
          case rel => exact ⟨i, by omega, by go_num, by rw [HD.out]⟩
          case measure => simp [intOf]
        · obtain ⟨q, hq⟩ : ∃ q : Nat, 7 - (k : Int) = q ∧ q = 7 - k := ⟨7 - k, by omega, rfl⟩
          obtain ⟨hq, HQ⟩ := hq
          rw [hq]
          have HQ' := Lib.hid HQ
          have hq7 : q ≤ 7 := by omega
          have hdq : decide ((0 : Int) ≤ (q : Int)) = true := by simp
          clear HQ hq
          obtain ⟨x, hx⟩ : ∃ x, bdTo d s[i] k = x := ⟨_, rfl⟩
          have HX := Lib.hid hx
          rw [hx]
          clear hx
          have h31 := shr31 x
          have hbit := bit_u8 s[i] q
          have hb8 := b8lt s[i]
          have hb1 := bitw_one (x.getLsbD 31)
          cases hb : x.getLsbD 31
          · rw [hb] at h31 hb1
            have HB := Lib.hid hb
            clear hb
            go_wp2_with fail
            go_round
            case rel =>
              have hq := HQ'.out
              exact ⟨k + 1, by omega, val_int (by omega), by rw [back_off x _ HB.out, ← HX.out, hq]; rfl⟩
            case measure => simp [intOf]
          · rw [hb] at h31 hb1
            have HB := Lib.hid hb
            clear hb
            go_wp2_with fail
            go_round
            case rel =>
              have hq := HQ'.out
              exact ⟨k + 1, by omega, val_int (by omega), by rw [back_on x _ HB.out, ← HX.out, hq]; rfl⟩
            case measure => simp [intOf]

set_option maxHeartbeats 400000 in
theorem ropen_short (s : ByteArray) (w : World) (h : s.size < 4) :
    Calls Try.prog 23 #[.string s] w fun e w' => e = .returned (.tuple #[.string (bs []), .int .i64 8]) ∧ Below w.heap.size w w' := by
  go_enter Try.func23, Try.ntmps23
  go_wp2_with fail
  go_ret2
  exact ⟨rfl, Below.refl _ _⟩
theorem sealed_four (s : ByteArray) (n : Nat) (hn : n + 4 = s.size) : isSealed s.data.toList = ((bs (four (crc (s.extract 0 n).data.toList))).toList == (s.extract n s.size).toList) := by
  have e1 : (s.extract 0 n).data.toList = s.data.toList.take n := by simp
  have e2 : (s.extract n s.size).data.toList = s.data.toList.drop n := by
    simp
    exact List.take_of_length_le (by simp)
  have hl : s.data.toList.length = s.size := by simp
  rw [e1]
  unfold isSealed sealL
  rw [hl, show s.size - 4 = n from by omega]
  generalize four (crc (s.data.toList.take n)) = x
  have key : (s.data.toList.take n ++ x = s.data.toList) ↔ (bs x).toList = (s.extract n s.size).toList := by
    rw [toList_bs, ByteArray.toList_eq, e2]
    constructor
    · intro h
      have := congrArg (List.drop n) h
      rw [List.drop_append_of_le_length (by simp; omega), List.drop_of_length_le (by simp; omega)] at this
      exact this
    · intro h
      rw [h, List.take_append_drop]
  rw [Bool.eq_iff_iff, beq_iff_eq, beq_iff_eq]
  exact key

set_option maxHeartbeats 1000000 in
theorem ropen_any (s : ByteArray) (w : World) (b : Bool) (hs : s.size ≤ 1000000000) (h : 4 ≤ s.size) (hy : isSealed s.data.toList = b) :
    Calls Try.prog 23 #[.string s] w
      fun e w' => e = .returned (if b then .tuple #[.string (s.extract 0 (s.size - 4)), .int .i64 0] else .tuple #[.string (bs []), .int .i64 42]) ∧ Below w.heap.size w w' := by
  obtain ⟨n, hn⟩ : ∃ n, n = s.size - 4 := ⟨_, rfl⟩
  have e1 : (s.size : Int) - 4 = (n : Int) := by omega
  have h1 : n ≤ s.size := by omega
  have hs1 : (s.extract 0 n).size ≤ 1000000000 := by simp; omega
  have HS := Lib.hid hs1
  rw [← hn]
  obtain ⟨x, hx⟩ : ∃ x, bs (four (crc (s.extract 0 n).data.toList)) = x := ⟨_, rfl⟩
  rw [sealed_four s n (by omega), hx] at hy
  have HX := Lib.hid hx
  clear hn hs1 hx
  obtain ⟨c, hc⟩ : ∃ c, crc (s.extract 0 n).data.toList = c := ⟨_, rfl⟩
  have HC := Lib.hid hc
  have HF := Lib.hid (show bs (four c) = x by rw [← hc]; exact HX.out)
  clear hc
  have g1 : (0 : Int) ≤ (n : Int) := by omega
  have g2 : (n : Int) ≤ (s.size : Int) := by omega
  go_enter Try.func23, Try.ntmps23
  go_wp2_with fail
  go_region_held3 (fun _ => True) (trivial)
    (first | (go_at_call 24; (with_reducible refine (rof_to _ _ _ HS.out HC.out).mono ?_); rintro e w3 ⟨rfl, rfl⟩) | (go_at_call 35; (with_reducible refine (four_to _ _ _ HF.out).mono ?_); rintro e w4 ⟨rfl, hb4⟩))
  cases b
  · go_wp2_with fail
    go_ret2
    exact ⟨rfl, bel_undrew hb4⟩
  · go_wp2_with fail
    go_ret2
    exact ⟨rfl, bel_undrew hb4⟩

end Go.Proofs.Ytdcfefhlhphdiaa
