/- soukref11.Header; souklaw11.SegHeads: its walk. -/
import Derived.Test.YtaonjbkkgeiniaaGreatDoorSgRb
import Derived.Test.YtaonjbkkgeiniaaGreatDoorRSeg
namespace Go.Proofs.YtaonjbkkgeiniaaGreatDoor
open Go.RowKit

def hdA (n : Int) : ByteArray := if 0 ≤ n ∧ n ≤ 1048576 then bs (hdrL n.toNat) else ⟨#[]⟩
def hdX (n : Int) : Int := if 0 ≤ n ∧ n ≤ 1048576 then 0 else 1
theorem header_is (n : Int) (w : World) : Calls Tryz.prog 14 #[.int .i64 n] w fun e w' => e = .returned (.tuple #[.string (hdA n), .int .i64 (hdX n)]) ∧ Below w.heap.size w w' := by
  have := Header_any n w
  unfold hdA hdX
  by_cases h : 0 ≤ n ∧ n ≤ 1048576
  · rw [if_pos h] at this
    rw [if_pos h, if_pos h]
    exact this
  · rw [if_neg h] at this
    rw [if_neg h, if_neg h]
    exact this
set_option maxHeartbeats 1000000 in
theorem rheader_is (n : Int) (w : World) : Calls Tryz.prog 21 #[.int .i64 n] w fun e w' => e = .returned (.tuple #[.string (hdA n), .int .i64 (hdX n)]) ∧ Below w.heap.size w w' := by
  unfold hdA hdX
  by_cases h1 : n < 0
  · have d1 : decide (n < 0) = true := decide_eq_true h1
    rw [if_neg (by omega), if_neg (by omega)]
    clear h1
    go_enter Tryz.func21, Tryz.ntmps21
    go_wp2_with fail
    go_ret2
    exact ⟨rfl, Below.refl _ _⟩
  have d1 : decide (n < 0) = false := decide_eq_false h1
  by_cases h2 : 1048576 < n
  · have d2 : decide ((1048576 : Int) < n) = true := decide_eq_true h2
    rw [if_neg (by omega), if_neg (by omega)]
    clear h1 h2
    go_enter Tryz.func21, Tryz.ntmps21
    go_wp2_with fail
    go_ret2
    exact ⟨rfl, Below.refl _ _⟩
  have d2 : decide ((1048576 : Int) < n) = false := decide_eq_false h2
  rw [if_pos (by omega), if_pos (by omega)]
  obtain ⟨m, rfl⟩ : ∃ m : Nat, n = m := ⟨n.toNat, by omega⟩
  rw [Int.toNat_natCast]
  obtain ⟨y, ey⟩ : ∃ y, bs (be8 m) = y := ⟨_, rfl⟩
  have hy : y.size = 8 := by rw [← ey, size_bs, length_be8]
  have K1 := Lib.hid (rfix_to m 8 (m : Int) 8 rfl rfl (by omega) (by omega) y (by rw [fixL_be8]; exact ey))
  have e1 : IntKind.u64.wrap (m : Int) = (m : Int) := IntWalk.u64_in _ (by omega)
  have hse := rseal_str (⟨#[115, 101, 103, 49]⟩ ++ y)
  have hsd : (⟨#[115, 101, 103, 49]⟩ ++ y : ByteArray).data.toList = magicL ++ be8 m := by rw [data_app, ← ey, bs_data]; rfl
  rw [hsd] at hse
  have K2 := Lib.hid (fun w => hse w (by rw [ByteArray.size_append, hy]; decide))
  have z1 : ¬ 9223372036854775807 < 4 + y.size := by omega
  clear h1 h2 hse hsd ey
  have HD := Lib.hid (show bs (sealL (magicL ++ be8 m)) = bs (hdrL m) from rfl)
  go_enter Tryz.func21, Tryz.ntmps21
  go_wp2_with fail
  refine (K1.out _).mono ?_
  rintro e w1 ⟨rfl, hb⟩
  have HB1 := Lib.hid hb
  clear hb
  go_wp2_with fail
  refine (K2.out _).mono ?_
  rintro e w2 ⟨rfl, hb⟩
  have HB2 := Lib.hid (bel_trans HB1.out hb)
  clear hb
  go_wp2_with fail
  go_ret2
  exact ⟨by rw [← HD.out]; rfl, HB2.out⟩
set_option maxRecDepth 20000 in
set_option maxHeartbeats 8000000 in
theorem heads_any (g n : Int) (s t : ByteArray) (w : World) (h : Laid w) :
    Calls Tryz.prog 4 #[.int .i64 g, .int .i64 n, .string s, .string t] w fun r w' => r = .returned (.bool true) ∧ Below w.heap.size w w' := by
  have HL := Lib.hid h
  clear h
  by_cases hs : 20000 < s.size
  · have d1 : decide ((20000 : Int) < (s.size : Int)) = true := decide_eq_true (by omega)
    clear hs
    go_enter Tryz.func4, Tryz.ntmps4
    go_wp2_with fail
    refine (awake_any _ HL.out).mono ?_
    rintro r w1 ⟨rfl, hb1⟩
    have HB1 := Lib.hid hb1
    clear hb1
    go_wp2_with fail
    go_ret
    exact ⟨rfl, HB1.out⟩
  have d1 : decide ((20000 : Int) < (s.size : Int)) = false := decide_eq_false (by omega)
  by_cases ht : 200 < t.size
  · have d2 : decide ((200 : Int) < (t.size : Int)) = true := decide_eq_true (by omega)
    clear hs ht
    go_enter Tryz.func4, Tryz.ntmps4
    go_wp2_with fail
    refine (awake_any _ HL.out).mono ?_
    rintro r w1 ⟨rfl, hb1⟩
    have HB1 := Lib.hid hb1
    clear hb1
    go_wp2_with fail
    go_ret
    exact ⟨rfl, HB1.out⟩
  have d2 : decide ((200 : Int) < (t.size : Int)) = false := decide_eq_false (by omega)
  have k1 := fun w => header_is n w
  have k2 := fun w => rheader_is n w
  have k3 := fun w => first_any s w
  have k4 := fun w => rfirst_any s w (by omega)
  have k5 := fun w h => named_any t (by omega) w h
  have k6 := fun w => rnamed_any t w
  have k7 := fun w (h : Laid w) => name_any g n w h.pow
  have k8 := fun w => rname_any g n w
  generalize hdA n = A at *
  generalize hdX n = E at *
  generalize nmS g n = X at *
  obtain ⟨c, f, hcf⟩ : ∃ c f : Int, hdV s.data.toList = .tuple #[.int .i64 c, .int .i64 f] := by
    unfold hdV
    split
    · exact ⟨_, _, rfl⟩
    · exact ⟨_, _, rfl⟩
  obtain ⟨i, j, b, hij⟩ : ∃ (i j : Int) (b : Bool), ndV t = .tuple #[.int .i64 i, .int .i64 j, .bool b] := by
    unfold ndV
    split
    · exact ⟨_, _, _, rfl⟩
    · exact ⟨_, _, _, rfl⟩
  rw [hcf] at k3 k4
  rw [hij] at k5 k6
  have K1 := Lib.hid k1
  have K2 := Lib.hid k2
  have K3 := Lib.hid k3
  have K4 := Lib.hid k4
  have K5 := Lib.hid k5
  have K6 := Lib.hid k6
  have K7 := Lib.hid k7
  have K8 := Lib.hid k8
  clear k1 k2 k3 k4 k5 k6 k7 k8 hcf hij hs ht
  go_enter Tryz.func4, Tryz.ntmps4
  go_wp2_with fail
  refine (K1.out _).mono ?_
  rintro r w1 ⟨rfl, hb⟩
  have HB1 := Lib.hid hb
  clear hb
  go_wp2_with fail
  refine (K2.out _).mono ?_
  rintro r w2 ⟨rfl, hb⟩
  have HB2 := Lib.hid (bel_trans HB1.out hb)
  clear hb
  go_wp2_with fail
  refine (K3.out _).mono ?_
  rintro r w3 ⟨rfl, hb⟩
  have HB3 := Lib.hid (bel_trans HB2.out hb)
  clear hb
  go_wp2_with fail
  refine (K4.out _).mono ?_
  rintro r w4 ⟨rfl, hb⟩
  have HB4 := Lib.hid (bel_trans HB3.out hb)
  clear hb
  go_wp2_with fail
  refine (K5.out _ (HL.out.keep HB4.out)).mono ?_
  rintro r w5 ⟨rfl, hb⟩
  have HB5 := Lib.hid (bel_trans HB4.out hb)
  clear hb
  go_wp2_with fail
  refine (K6.out _).mono ?_
  rintro r w6 ⟨rfl, rfl⟩
  go_wp2_with fail
  refine (K7.out _ (HL.out.keep HB5.out)).mono ?_
  rintro r w7 ⟨rfl, hb⟩
  have HB7 := Lib.hid (bel_trans HB5.out hb)
  clear hb
  go_wp2_with fail
  refine (K8.out _).mono ?_
  rintro r w8 ⟨rfl, hb⟩
  have HB8 := Lib.hid (bel_trans HB7.out hb)
  clear hb
  go_wp2_with fail
  refine (awake_any _ (HL.out.keep HB8.out)).mono ?_
  rintro r w9 ⟨rfl, hb⟩
  have HB9 := Lib.hid (bel_trans HB8.out hb)
  clear hb
  go_wp2_with fail
  go_ret
  exact ⟨rfl, HB9.out⟩
end Go.Proofs.YtaonjbkkgeiniaaGreatDoor
