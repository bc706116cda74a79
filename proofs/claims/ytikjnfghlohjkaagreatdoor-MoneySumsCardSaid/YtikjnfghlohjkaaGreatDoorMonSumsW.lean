/- souklaw03.MoneySums: its walk. -/
import Derived.Test.YtikjnfghlohjkaaGreatDoorMonCp
import Derived.Test.YtikjnfghlohjkaaGreatDoorMonAw
import Derived.Test.YtikjnfghlohjkaaGreatDoorMonGs
import Derived.Test.YtikjnfghlohjkaaGreatDoorMonInts
import Derived.BigQuiet
namespace Go.Proofs.YtikjnfghlohjkaaGreatDoor
open Go.RowKit

set_option maxRecDepth 20000 in
set_option maxHeartbeats 16000000 in
theorem sums_law (oa : Option Addr) (len cap : Nat) (l : List Int) (a b : Int) (ha : -9223372036854775808 ≤ a ∧ a ≤ 9223372036854775807) (hb : -9223372036854775808 ≤ b ∧ b ≤ 9223372036854775807) (w : World)
    (hl : IntsIn .i64 w oa len cap l) (hR : RngT w) (hP : PowT w) :
    Calls Tryz.prog 3 #[.slice oa len cap, .int .i64 a, .int .i64 b] w fun r w' => r = .returned (.bool true) ∧ Below w.heap.size w w' := by
  have HR := Lib.hid hR
  have HP := Lib.hid hP
  have HL := Lib.hid hl
  have hK1 := fun w => add_any a b ha hb w
  have hK2 := fun w => sub_any a b ha hb w
  have hK3 := fun w => rsub_all a b ha hb w
  have hK4 := fun w => rcap_any a b ha hb w
  have hK5 : ∀ w, Calls Tryz.prog 6 #[.slice (some ⟨w.heap.size, 0, none⟩) 2 2] (w.alloc (.cells #[.int .i64 a, .int .i64 b] 2)) fun e w' => e = .returned (.tuple #[.int .i64 (toldV (a + b)), .int .i64 (toldE (a + b))]) ∧ Below w.heap.size w w' := by
    intro w
    have := rsum_all (some ⟨w.heap.size, 0, none⟩) 2 2 [a, b] _ (ints2 w a b ha hb) (by omega)
    rw [show sm [a, b] = a + b by rw [sm_cons, sm_cons]; show _ + (_ + 0) = _; omega] at this
    refine this.mono ?_
    rintro e w' ⟨h1, h2⟩
    exact ⟨h1, ((Below.refl _ _).alloc (Nat.le_refl _) _).trans (h2.mono (by simp))⟩
  have hK6 := fun w => cap_any a b w
  unfold addV addE at hK1
  unfold subV subE at hK2
  obtain ⟨V2, hV2⟩ : ∃ V2, toldV (a + b) = V2 := ⟨_, rfl⟩
  obtain ⟨E2, hE2⟩ : ∃ E2, toldE (a + b) = E2 := ⟨_, rfl⟩
  obtain ⟨V3, hV3⟩ : ∃ V3, toldV (a - b) = V3 := ⟨_, rfl⟩
  obtain ⟨E3, hE3⟩ : ∃ E3, toldE (a - b) = E3 := ⟨_, rfl⟩
  obtain ⟨C, hC⟩ : ∃ C, capV a b = C := ⟨_, rfl⟩
  rw [hV2, hE2] at hK1 hK5
  rw [hV3, hE3] at hK2 hK3
  rw [hC] at hK4 hK6
  have K1 := Lib.hid hK1
  have K2 := Lib.hid hK2
  have K3 := Lib.hid hK3
  have K4 := Lib.hid hK4
  have K5 := Lib.hid hK5
  have K6 := Lib.hid hK6
  clear hR hP hl hK1 hK2 hK3 hK4 hK5 hK6 hV2 hE2 hV3 hE3 hC ha hb
  by_cases h1 : 1000 < len
  · have d1 : decide ((1000 : Int) < (len : Int)) = true := decide_eq_true (by omega)
    clear h1
    go_enter Tryz.func3, Tryz.ntmps3
    go_wp2_with fail
    refine (awake_any _ HR.out HP.out).mono ?_
    rintro r w1 ⟨rfl, hb1⟩
    have HB1 := Lib.hid hb1
    clear hb1
    go_wp2_with fail
    go_ret
    exact ⟨rfl, HB1.out⟩
  have d1 : decide ((1000 : Int) < (len : Int)) = false := decide_eq_false (by omega)
  have hlen : len ≤ 1000 := by omega
  have S1 := fun o c W (h : IntsIn .i64 W o len c l) => sum_any o len c l W h
  have S2 := fun o c W (h : IntsIn .i64 W o len c l) => rsum_all o len c l W h hlen
  obtain ⟨V1, hV1⟩ : ∃ V1, toldV (sm l) = V1 := ⟨_, rfl⟩
  obtain ⟨E1, hE1⟩ : ∃ E1, toldE (sm l) = E1 := ⟨_, rfl⟩
  rw [hV1, hE1] at S1 S2
  have Z1 := Lib.hid S1
  have Z2 := Lib.hid S2
  clear h1 hV1 hE1 S1 S2
  have hbe : Below w.heap.size w (w.alloc (.cells #[] 2)) := (Below.refl _ _).alloc (Nat.le_refl _) _
  obtain ⟨v1, W1, r1, n1, g1⟩ := append_ints (w.alloc (.cells #[] 2)) w.heap.size 22 _ 0 _ (own_empty w) oa len cap l (ints_keep HL.out hbe) (by omega) hbe.size
  have b1 : Below w.heap.size w W1 := hbe.grown g1 hbe.size (fun k hk => ((own_empty w).lt k hk).1)
  rw [show ivs [] ++ ivs l = ivs l from rfl, Nat.zero_add] at n1
  obtain ⟨o3, c3, rfl, hi⟩ := ints_of_own n1 HL.out.2.2.2.1
  have R1 := Lib.hid r1
  have HB1 := Lib.hid b1
  have HI := Lib.hid hi
  clear hbe r1 n1 g1 b1 hi
  go_enter Tryz.func3, Tryz.ntmps3
  go_wp2_with (at_builtin; refine list_append_run rfl (.tmp 25) (.tmp 26) 22 rfl _ _ _ _ rfl rfl R1.out ?_)
  refine (Z1.out _ _ _ HI.out).mono ?_
  rintro r w2 ⟨rfl, hb⟩
  have HI2 := Lib.hid (ints_keep HI.out hb)
  have HB2 := Lib.hid (bel_trans HB1.out hb)
  clear hb R1 HB1 HI
  go_wp2_with fail
  refine (Z2.out _ _ _ (ints_keep HL.out HB2.out)).mono ?_
  rintro r w3 ⟨rfl, hb⟩
  have HI3 := Lib.hid (ints_keep HI2.out hb)
  have HB3 := Lib.hid (bel_trans HB2.out hb)
  clear hb HI2 HB2
  go_wp2_with fail
  refine (K1.out _).mono ?_
  rintro r w4 ⟨rfl, hb⟩
  have HI4 := Lib.hid (ints_keep HI3.out hb)
  have HB4 := Lib.hid (bel_trans HB3.out hb)
  clear hb HI3 HB3
  go_wp2_with fail
  refine (K5.out _).mono ?_
  rintro r w5 ⟨rfl, hb⟩
  have HI5 := Lib.hid (ints_keep HI4.out hb)
  have HB5 := Lib.hid (bel_trans HB4.out hb)
  clear hb HI4 HB4
  go_wp2_with fail
  refine (K2.out _).mono ?_
  rintro r w6 ⟨rfl, hb⟩
  have HI6 := Lib.hid (ints_keep HI5.out hb)
  have HB6 := Lib.hid (bel_trans HB5.out hb)
  clear hb HI5 HB5
  go_wp2_with fail
  refine (K3.out _).mono ?_
  rintro r w7 ⟨rfl, rfl⟩
  go_wp2_with fail
  go_loopw [20] (fun iv wr => ∃ i : Nat, i ≤ len ∧ iv = .int .i64 i ∧ IntsIn .i64 wr o3 len c3 l ∧ Below w.heap.size w wr) (fun iv _ => len - (intOf iv).toNat)
  case atStart => exact ⟨0, Nat.zero_le _, rfl, HI6.out, HB6.out⟩
  case round =>
    obtain ⟨i, hi, rfl, hin, hbw⟩ := hrel
    have HIN := Lib.hid hin
    have HBW := Lib.hid hbw
    clear hin hbw
    by_cases hlt : i < len
    · obtain ⟨x, hx⟩ : ∃ x, l.getD i 0 = x := ⟨_, rfl⟩
      rcases HIN.out.2.2.2.2 with h0 | ⟨b1, off1, rfl, hbl1, hc1⟩
      · omega
      rcases HL.out.2.2.2.2 with h0 | ⟨b2, off2, rfl, hbl2, hc2⟩
      · omega
      have c1 := hc1 i hlt
      have c2 := (HBW.out.cell (p := ⟨b2, off2 + i, none⟩) hbl2).trans (hc2 i hlt)
      rw [hx] at c1 c2
      have d2 : decide ((i : Int) < (len : Int)) = true := decide_eq_true (by omega)
      clear hc1 hc2 hx
      go_wp2_with fail
      go_quiet (fail)
      go_wp2_with fail
      go_roundw
      case rel => exact ⟨i + 1, by omega, by go_num, ints_keep HIN.out (below_drewN (Below.refl _ _) _), below_drewN HBW.out _⟩
      case measure => simp [intOf]; omega
    · obtain rfl : i = len := by omega
      clear hlt
      go_wp2_with fail
      refine (K6.out _).mono ?_
      rintro r w8 ⟨rfl, rfl⟩
      go_wp2_with fail
      refine (K4.out _).mono ?_
      rintro r w9 ⟨rfl, hb⟩
      have HB9 := Lib.hid (bel_trans HBW.out hb)
      clear hb
      go_wp2_with fail
      refine (awake_any _ (HR.out.keep HB9.out) (HP.out.keep HB9.out)).mono ?_
      rintro r w10 ⟨rfl, hb⟩
      have HB10 := Lib.hid (bel_trans HB9.out hb)
      clear hb
      go_wp2_with fail
      go_ret
      exact ⟨rfl, HB10.out⟩
end Go.Proofs.YtikjnfghlohjkaaGreatDoor
