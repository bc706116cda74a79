/- math/bits.Div64 by 10000, of a number of two words. -/
import Derived.Test.YtikjnfghlohjkaaDoorMonC
namespace Go.Proofs.YtikjnfghlohjkaaDoor
open Go.RowKit

theorem div_fin (N R z : Nat) (h : N * 1125899906842624 = R * 11258999068426240000 + z) : N = R * 10000 + z / 1125899906842624 := by omega
theorem div_fin2 (R z : Nat) (h : z < 10000) : R = (R * 10000 + z) / 10000 := by omega
theorem div_law (hi lo A B C D c1 c0 q1 r1 P Q q0 r0 G R : Nat) (hA : A = hi * 1125899906842624) (hD : D = lo / 16384) (hB : B = A + D) (hC : C = (lo * 1125899906842624) % 18446744073709551616)
  (hc1 : c1 = C / 4294967296) (hc0 : c0 = C % 4294967296) (hq1 : q1 = B / 2621440000) (hr1 : r1 = B - q1 * 2621440000) (hP : P = 4294967296 * r1) (hQ : Q = P + c1) (hq0 : q0 = Q / 2621440000) (hr0 : r0 = Q - q0 * 2621440000)
  (hG : G = q1 * 4294967296) (hR : R = G + q0) : R = (hi * 18446744073709551616 + lo) / 10000 := by
  have k1 : B = q1 * 2621440000 + r1 := by clear hA hD hB hC hc1 hc0 hP hQ hq0 hr0 hG hR; omega
  have k2 : Q = q0 * 2621440000 + r0 := by clear hA hD hB hC hc1 hc0 hP hQ hG hR; omega
  have kr : r0 < 2621440000 := by clear hA hD hB hC hc1 hc0 hP hQ hG hR k1; omega
  have k3 : C = c1 * 4294967296 + c0 := by clear hA hD hB hC hP hQ hG hR k1 k2; omega
  have kc : c0 < 4294967296 := by clear hA hD hB hC hP hQ hG hR k1 k2; omega
  -- lo*2^50 = D*2^64 + C
  have k6 : lo * 1125899906842624 = D * 18446744073709551616 + C := by
    have := Nat.div_add_mod (lo * 1125899906842624) 18446744073709551616
    rw [← hC, show lo * 1125899906842624 / 18446744073709551616 = lo / 16384 by rw [show (18446744073709551616 : Nat) = 16384 * 1125899906842624 from rfl, Nat.mul_div_mul_right _ _ (by decide)], ← hD] at this
    omega
  have k4 : (hi * 18446744073709551616 + lo) * 1125899906842624 = B * 18446744073709551616 + C := by rw [Nat.add_mul, k6, hB, hA, Nat.add_mul, Nat.mul_right_comm, Nat.add_assoc]
  have k5 : (hi * 18446744073709551616 + lo) * 1125899906842624 = R * 11258999068426240000 + (r0 * 4294967296 + c0) := by
    rw [k4, k1, k3, hR, hG]; clear k4 k1 k3 hR hG hA hD hB hC hc1 hc0 hq1 hr1 k6; omega
  have k7 : hi * 18446744073709551616 + lo = R * 10000 + (r0 * 4294967296 + c0) / 1125899906842624 := by
    exact div_fin _ _ _ k5
  have k8 : (r0 * 4294967296 + c0) / 1125899906842624 < 10000 := by
    clear k7 k5 k4 k1 k2 k3 hR hG hA hD hB hC hc1 hc0 hq1 hr1 k6 hP hQ hq0 hr0
    omega
  rw [k7]
  exact div_fin2 _ _ k8
theorem e15 (F1 F2 F3 k1 k2 k3 B c1 q1 r1 P Q : Nat) (e1 : F1 + 18446744073709551616 * k1 = B * 4294967296) (e2 : F2 + 18446744073709551616 * k2 = F1 + c1) (e3 : F3 + 18446744073709551616 * k3 = q1 * 11258999068426240000)
   (h5 : B = q1 * 2621440000 + r1) (hP : P = 4294967296 * r1) (hQ : Q = P + c1) (hQl : Q < 18446744073709551616) : ((F2 : Int) - F3) % 18446744073709551616 = Q := by
  have h6 : (F2 : Int) - F3 = Q + 18446744073709551616 * ((k3 : Int) - k1 - k2) := by omega
  rw [h6, Int.add_mul_emod_self_left, Int.emod_eq_of_lt (by omega) (by omega)]
theorem modE (n : Nat) : ∃ F k : Nat, F + 18446744073709551616 * k = n ∧ F < 18446744073709551616 := ⟨n % 18446744073709551616, n / 18446744073709551616, by omega, by omega⟩
theorem wrap_of {x : Int} {F k : Nat} (h : (F : Int) + 18446744073709551616 * k = x) (hF : F < 18446744073709551616) : IntKind.u64.wrap x = F := by
  rw [IntKind.wrap_u64, ← h, Int.add_mul_emod_self_left, Int.emod_eq_of_lt (by omega) (by omega)]
theorem u64_nat {x : Int} {n : Nat} (h : x = n) (hn : n < 18446744073709551616) : IntKind.u64.wrap x = n := by rw [h]; exact IntWalk.u64_in _ (by omega)
theorem low_facts (Q c0 q1 : Nat) (hQ : Q < 11258999068426240000) (hc0 : c0 < 4294967296) (hq1 : q1 < 4294967296) : ∃ q0 r0 P0 Q0 G R : Nat, q0 = Q / 2621440000 ∧ r0 = Q - q0 * 2621440000 ∧ G = q1 * 4294967296 ∧ R = G + q0 ∧
    IntKind.u64.wrap ((Q : Int) / 2621440000) = (q0 : Int) ∧ IntKind.u64.wrap ((Q : Int) - IntKind.u64.wrap ((q0 : Int) * 2621440000)) = (r0 : Int) ∧ decide ((4294967296 : Int) ≤ (q0 : Int)) = false ∧
    IntKind.u64.wrap (4294967296 * (r0 : Int)) = (P0 : Int) ∧ IntKind.u64.wrap ((P0 : Int) + (c0 : Int)) = (Q0 : Int) ∧ decide ((Q0 : Int) < 0) = false ∧ IntKind.u64.wrap ((q1 : Int) * 4294967296) = (G : Int) ∧ IntKind.u64.wrap ((G : Int) + (q0 : Int)) = (R : Int) := by
  obtain ⟨q0, hq0⟩ : ∃ c : Nat, c = Q / 2621440000 := ⟨_, rfl⟩
  obtain ⟨r0, hr0⟩ : ∃ c : Nat, c = Q - q0 * 2621440000 := ⟨_, rfl⟩
  have hq0l : q0 < 4294967296 := by omega
  have hr0l : r0 < 2621440000 := by omega
  have hqm : q0 * 2621440000 ≤ Q := by omega
  refine ⟨q0, r0, 4294967296 * r0, 4294967296 * r0 + c0, q1 * 4294967296, q1 * 4294967296 + q0, hq0, hr0, rfl, rfl, ?_, ?_, decide_eq_false (by omega), ?_, ?_, decide_eq_false (by omega), ?_, ?_⟩
  · exact u64_nat (by omega) (by omega)
  · rw [u64_nat (x := (q0 : Int) * 2621440000) (n := q0 * 2621440000) (by omega) (by omega)]
    exact u64_nat (by omega) (by omega)
  · exact u64_nat (by omega) (by clear hq0 hr0; omega)
  · exact u64_nat (by omega) (by clear hq0 hr0; omega)
  · exact u64_nat (by omega) (by clear hq0 hr0; omega)
  · exact u64_nat (by omega) (by clear hq0 hr0; omega)
theorem or_high (a b : Nat) (hb : b < 1125899906842624) : (a * 1125899906842624) ||| b = a * 1125899906842624 + b := by
  have h := Nat.shiftLeft_add_eq_or_of_lt (i := 50) hb a
  rw [Nat.shiftLeft_eq, show (2 : Nat) ^ 50 = 1125899906842624 from rfl] at h
  exact h.symm
theorem bl14 : Lib.bitLen 10000 = 14 := by
  rw [Lib.bitLen_shift8 10000 (by omega) (by omega), show 10000 / 256 = 39 from rfl]
  simp [Lib.bitLen, Lib.bitLenAux]
set_option maxRecDepth 20000 in
set_option maxHeartbeats 1000000 in
theorem div_high (hi lo : Nat) (h0 : 0 < hi) (hh : hi < 10000) (hlo : lo < 18446744073709551616) (w : World) :
    Calls Tryd.prog 27 #[.int .u64 hi, .int .u64 lo, .int .u64 10000] w fun e w' => ∃ r, e = .returned (.tuple #[.int .u64 (((hi * 18446744073709551616 + lo) / 10000 : Nat) : Int), .int .u64 r]) ∧ Below w.heap.size w w' := by
  have d1 : decide ((10000 : Int) ≤ (hi : Int)) = false := decide_eq_false (by omega)
  have d2 : ((hi : Int) == 0) = false := by rw [beq_eq_false_iff_ne]; omega
  have hz : ∀ w, Calls Tryd.prog 41 #[.int .u64 10000] w fun e w' => e = .returned (.int .i64 50) ∧ w' = w := fun w => by
    have h := Tryd.bits_LeadingZeros64 10000 w (by omega) (by omega)
    rw [show (64 - (Lib.bitLen (10000 : Int).toNat : Int)) = 50 by rw [show (10000 : Int).toNat = 10000 by omega, bl14]; omega] at h
    exact h
  obtain ⟨A, hA⟩ : ∃ A : Nat, A = hi * 1125899906842624 := ⟨_, rfl⟩
  have E1 : IntKind.u64.wrap ((hi : Int) * 1125899906842624) = (A : Int) := by rw [IntKind.wrap_u64]; omega
  obtain ⟨D, hD⟩ : ∃ D : Nat, D = lo / 16384 := ⟨_, rfl⟩
  have E2 : (lo : Int) / 16384 = (D : Int) := by omega
  obtain ⟨B, hB⟩ : ∃ B : Nat, B = A + D := ⟨_, rfl⟩
  have E3 : bits BinOp.or IntKind.u64 (A : Int) (D : Int) = (B : Int) := by
    rw [bits_or_u64_nat A D (by omega) (by omega), hB, hA, or_high hi D (by omega)]
  obtain ⟨C, hC⟩ : ∃ C : Nat, C = (lo * 1125899906842624) % 18446744073709551616 := ⟨_, rfl⟩
  have E4 : IntKind.u64.wrap ((lo : Int) * 1125899906842624) = (C : Int) := by rw [IntKind.wrap_u64]; omega
  obtain ⟨c1, hc1⟩ : ∃ c : Nat, c = C / 4294967296 := ⟨_, rfl⟩
  have E5 : (C : Int) / 4294967296 = (c1 : Int) := by omega
  obtain ⟨c0, hc0⟩ : ∃ c : Nat, c = C % 4294967296 := ⟨_, rfl⟩
  have E6 : bits BinOp.and IntKind.u64 (C : Int) 4294967295 = (c0 : Int) := by
    have h := bits_and_u64_nat C 4294967295 (by omega) (by omega)
    rw [show ((4294967295 : Nat) : Int) = 4294967295 from rfl] at h
    rw [h, hc0, show (4294967295 : Nat) = 2 ^ 32 - 1 from rfl, Nat.and_two_pow_sub_one_eq_mod]
  obtain ⟨q1, hq1⟩ : ∃ c : Nat, c = B / 2621440000 := ⟨_, rfl⟩
  have E7 : IntKind.u64.wrap ((B : Int) / 2621440000) = (q1 : Int) := by
    rw [IntWalk.u64_in _ (by omega)]; omega
  obtain ⟨r1, hr1⟩ : ∃ c : Nat, c = B - q1 * 2621440000 := ⟨_, rfl⟩
  have E8 : IntKind.u64.wrap ((B : Int) - IntKind.u64.wrap ((q1 : Int) * 2621440000)) = (r1 : Int) := by
    rw [IntWalk.u64_in ((q1 : Int) * 2621440000) (by omega), IntWalk.u64_in _ (by omega)]; omega
  have E9 : bits BinOp.and IntKind.u64 11258999068426240000 4294967295 = 0 := by decide +kernel
  have HA := Lib.hid hA
  have HD := Lib.hid hD
  have HB := Lib.hid hB
  have HC := Lib.hid hC
  have Hc1 := Lib.hid hc1
  have Hc0 := Lib.hid hc0
  have Hq1 := Lib.hid hq1
  have Hr1 := Lib.hid hr1
  clear hA hD hB hC hc1 hc0 hq1 hr1
  go_enter Tryd.func27, Tryd.ntmps27
  go_wp2_with fail
  refine (hz _).mono ?_
  rintro e w1 ⟨rfl, rfl⟩
  clear hz
  have hBl : B < 11259017659770175488 := by have := HB.out; have := HA.out; have := HD.out; omega
  have hCl : C < 18446744073709551616 := by have := HC.out; omega
  have hr1l : r1 < 2621440000 := by have := Hr1.out; have := Hq1.out; omega
  have hc1l : c1 < 4294967296 := by have := Hc1.out; omega
  have hc0l : c0 < 4294967296 := by have := Hc0.out; omega
  have hq1m : q1 < 4294967296 := by have := Hq1.out; have := HB.out; have := HA.out; have := HD.out; omega
  have d3 : decide ((4294967296 : Int) ≤ (q1 : Int)) = false := decide_eq_false (by omega)
  obtain ⟨P, hP⟩ : ∃ c : Nat, c = 4294967296 * r1 := ⟨_, rfl⟩
  have E10 : IntKind.u64.wrap (4294967296 * (r1 : Int)) = (P : Int) := by rw [IntWalk.u64_in _ (by omega)]; omega
  obtain ⟨Q, hQ⟩ : ∃ c : Nat, c = P + c1 := ⟨_, rfl⟩
  have hQl : Q < 11258999068426240000 := by omega
  have E11 : IntKind.u64.wrap ((P : Int) + (c1 : Int)) = (Q : Int) := by rw [IntWalk.u64_in _ (by omega)]; omega
  have d4 : decide ((Q : Int) < 0) = false := decide_eq_false (by omega)
  have HP := Lib.hid hP
  have HQ := Lib.hid hQ
  have HBD := Lib.hid (⟨hBl, hCl, hr1l, hc1l, hc0l, hq1m, hQl⟩ : B < 11259017659770175488 ∧ C < 18446744073709551616 ∧ r1 < 2621440000 ∧ c1 < 4294967296 ∧ c0 < 4294967296 ∧ q1 < 4294967296 ∧ Q < 11258999068426240000)
  clear hP hQ hBl hCl hr1l hc1l hc0l hq1m hQl h0 hlo
  have HHI := Lib.hid hh
  clear hh
  go_wp2_with fail
  go_loopw [15, 16] (fun x y wr => x = .int .u64 (q1 : Int) ∧ y = .int .u64 (r1 : Int) ∧ wr = w1) (fun _ _ _ => 0)
  case atStart => exact ⟨rfl, rfl, rfl⟩
  case round =>
    obtain ⟨rfl, rfl, rfl⟩ := hrel
    obtain ⟨hBl, hCl, hr1l, hc1l, hc0l, hq1m, hQl⟩ := HBD.out
    obtain ⟨F1, k1, hF1⟩ : ∃ F k : Nat, F + 18446744073709551616 * k = B * 4294967296 ∧ F < 18446744073709551616 := modE _
    have E12 : IntKind.u64.wrap ((B : Int) * 4294967296) = (F1 : Int) := wrap_of (k := k1) (by have := hF1.1; clear hF1; omega) hF1.2
    obtain ⟨F2, k2, hF2⟩ : ∃ F k : Nat, F + 18446744073709551616 * k = F1 + c1 ∧ F < 18446744073709551616 := modE _
    have E13 : IntKind.u64.wrap ((F1 : Int) + (c1 : Int)) = (F2 : Int) := wrap_of (k := k2) (by have := hF2.1; clear hF1 hF2; omega) hF2.2
    obtain ⟨F3, k3, hF3⟩ : ∃ F k : Nat, F + 18446744073709551616 * k = q1 * 11258999068426240000 ∧ F < 18446744073709551616 := modE _
    have E14 : IntKind.u64.wrap ((q1 : Int) * 11258999068426240000) = (F3 : Int) := wrap_of (k := k3) (by have := hF3.1; clear hF1 hF2 E12 E13; omega) hF3.2
    have E15 : IntKind.u64.wrap ((F2 : Int) - (F3 : Int)) = (Q : Int) := by
      rw [IntKind.wrap_u64]
      exact e15 F1 F2 F3 k1 k2 k3 B c1 q1 r1 P Q hF1.1 hF2.1 hF3.1 (by have h3 := Hr1.out; have h4 := Hq1.out; clear hF1 hF2 hF3 E12 E13 E14; omega) HP.out HQ.out (by omega)
    obtain ⟨q0, r0, P0, Q0, G, R, hq0, hr0, hG, hR, E16, E17, d5, E18, E19, d6, E20, E21⟩ := low_facts Q c0 q1 hQl hc0l hq1m
    have HRR := Lib.hid (div_law hi lo A B C D c1 c0 q1 r1 P Q q0 r0 G R HA.out HD.out HB.out HC.out Hc1.out Hc0.out Hq1.out Hr1.out HP.out HQ.out hq0 hr0 hG hR)
    clear hF1 hF2 hF3 hq0 hr0 hG hR hBl hCl hr1l hc1l hc0l hq1m hQl
    go_wp2_with fail
    go_loopw [18, 16] (fun x y wr_ => x = .int .u64 (q0 : Int) ∧ y = .int .u64 (r0 : Int) ∧ wr_ = wr) (fun _ _ _ => 0)
    case atStart => exact ⟨rfl, rfl, rfl⟩
    case round =>
      obtain ⟨rfl, rfl, rfl⟩ := hrel
      go_wp2_with fail
      go_ret2
      exact ⟨_, by rw [HRR.out]; rfl, Below.refl _ _⟩
end Go.Proofs.YtikjnfghlohjkaaDoor
