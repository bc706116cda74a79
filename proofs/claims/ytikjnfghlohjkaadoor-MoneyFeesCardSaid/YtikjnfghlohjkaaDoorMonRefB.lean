/- soukref03.Mul; souklaw03.MoneyFees. -/
import Derived.Test.YtikjnfghlohjkaaDoorMonRefA
import Derived.Test.YtikjnfghlohjkaaDoorMonFairW
namespace Go.Proofs.YtikjnfghlohjkaaDoor
open Go.RowKit

structure MInv (m N B n y q : Int) (far over : Bool) : Prop where
  N0 : 0 ≤ N
  B0 : 0 ≤ B
  q0 : 0 ≤ q ∧ q ≤ 9223372036854775807
  n0 : 0 ≤ n ∧ n ≤ 4611686018427387904
  y0 : 0 ≤ y ∧ y ≤ 9223372036854775807
  eq : N + B * q = m
  ov : over = decide (4611686018427387904 < B)
  fr : far = decide (4611686018427387904 < N)
  yB : over = false → y = B
  nN : far = false → n = N
theorem MInv.half {m N B n y q : Int} {far over : Bool} (h : MInv m N B n y q far over) (N' n' : Int) (far' : Bool) (hN : N' + (B + B) * (q / 2) = m) (hN0 : 0 ≤ N') (hn : 0 ≤ n' ∧ n' ≤ 4611686018427387904) (hf : far' = decide (4611686018427387904 < N')) (hnN : far' = false → n' = N')
    (y' : Int) (over' : Bool) (hy : 0 ≤ y' ∧ y' ≤ 4611686018427387904) (ho : (4611686018427387904 < y + y ∧ over' = true) ∨ (y + y ≤ 4611686018427387904 ∧ over' = over ∧ y' = y + y)) : MInv m N' (B + B) n' y' (q / 2) far' over' := by
  have hB := h.B0
  have hq := h.q0
  have hov := h.ov
  have hyB := h.yB
  refine ⟨hN0, by omega, by omega, hn, by omega, hN, ?_, hf, ?_, hnN⟩
  · rcases ho with ⟨h1, rfl⟩ | ⟨h1, rfl, h2⟩
    · cases over'' : over
      · have := hyB over''
        exact (decide_eq_true (by omega)).symm
      · rw [over''] at hov
        have := of_decide_eq_true hov.symm
        exact (decide_eq_true (by omega)).symm
    · cases over'' : over'
      · have := hyB over''
        exact (decide_eq_false (by omega)).symm
      · rw [over''] at hov
        have := of_decide_eq_true hov.symm
        exact (decide_eq_true (by omega)).symm
  · intro e
    rcases ho with ⟨h1, rfl⟩ | ⟨h1, rfl, h2⟩
    · cases e
    · rw [h2, hyB e]
theorem half_odd (N B q : Int) (h : q % 2 = 1) : N + B + (B + B) * (q / 2) = N + B * q := by
  have hq : q = 2 * (q / 2) + 1 := by omega
  generalize q / 2 = t at *
  subst hq
  rw [Int.add_mul, Int.mul_add, Int.mul_one, show B * (2 * t) = B * t + B * t by rw [Int.mul_left_comm]; omega]
  omega
theorem half_even (N B q : Int) (h : q % 2 = 0) : N + (B + B) * (q / 2) = N + B * q := by
  have hq : q = 2 * (q / 2) := by omega
  generalize q / 2 = t at *
  subst hq
  rw [Int.add_mul, show B * (2 * t) = B * t + B * t by rw [Int.mul_left_comm]; omega]
/-- Sum of two in a new row, of what it gives -/
theorem rsum_new (a b : Int) (ha : 0 ≤ a ∧ a ≤ 9223372036854775807) (hb : 0 ≤ b ∧ b ≤ 9223372036854775807) (v e : Int) (hve : (a + b ≤ 4611686018427387904 ∧ v = a + b ∧ e = 0) ∨ (4611686018427387904 < a + b ∧ v = 0 ∧ e = 41)) (w : World) :
    Calls Tryd.prog 26 #[.slice (some ⟨w.heap.size, 0, none⟩) 2 2] (w.alloc (.cells #[.int .i64 a, .int .i64 b] 2)) fun r w' => r = .returned (.tuple #[.int .i64 v, .int .i64 e]) ∧ Below w.heap.size w w' := by
  have h := rsum2 a b ha hb (w.alloc (.cells #[.int .i64 a, .int .i64 b] 2)) w.heap.size (by rw [World.cell?_alloc_new]; rfl) (by rw [World.cell?_alloc_new]; rfl)
  have e1 : toldV (a + b) = v ∧ toldE (a + b) = e := by
    rcases hve with ⟨h1, rfl, rfl⟩ | ⟨h1, rfl, rfl⟩
    · exact ⟨if_pos (by omega), if_pos (by omega)⟩
    · exact ⟨if_neg (by omega), if_neg (by omega)⟩
  rw [e1.1, e1.2] at h
  exact h.mono fun r w' ⟨hr, hb⟩ => ⟨hr, bel_trans ((Below.refl _ _).alloc (Nat.le_refl _) _) hb⟩
theorem sum_cases (a b : Int) : ∃ v e : Int, (a + b ≤ 4611686018427387904 ∧ v = a + b ∧ e = 0) ∨ (4611686018427387904 < a + b ∧ v = 0 ∧ e = 41) := by
  by_cases h : a + b ≤ 4611686018427387904
  · exact ⟨_, _, .inl ⟨h, rfl, rfl⟩⟩
  · exact ⟨_, _, .inr ⟨by omega, rfl, rfl⟩⟩

set_option maxRecDepth 20000 in
set_option maxHeartbeats 4000000 in
theorem rmul_any (p q : Int) (hp : -9223372036854775808 ≤ p ∧ p ≤ 9223372036854775807) (hq : -9223372036854775808 ≤ q ∧ q ≤ 9223372036854775807) (w : World) :
    Calls Tryd.prog 12 #[.int .i64 p, .int .i64 q] w fun r w' => r = .returned (.tuple #[.int .i64 (mulV p q), .int .i64 (mulE p q)]) ∧ Below w.heap.size w w' := by
  by_cases hbad : p < 0 ∨ q < 0
  · have e1 : mulV p q = 0 := if_pos hbad
    have e2 : mulE p q = 1 := if_pos hbad
    rw [e1, e2]
    clear e1 e2
    by_cases h1 : p < 0
    · have d1 : decide (p < 0) = true := decide_eq_true h1
      clear hbad h1
      go_enter Tryd.func12, Tryd.ntmps12
      go_wp2_with fail
      go_ret2
      exact ⟨rfl, Below.refl _ _⟩
    · have d1 : decide (p < 0) = false := decide_eq_false h1
      have d2 : decide (q < 0) = true := decide_eq_true (by omega)
      clear hbad h1
      go_enter Tryd.func12, Tryd.ntmps12
      go_wp2_with fail
      go_ret2
      exact ⟨rfl, Below.refl _ _⟩
  · have d1 : decide (p < 0) = false := decide_eq_false (by omega)
    have d2 : decide (q < 0) = false := decide_eq_false (by omega)
    obtain ⟨m, hm⟩ : ∃ m, p * q = m := ⟨_, rfl⟩
    have HV := Lib.hid (show mulV p q = (if 4611686018427387904 < m then 0 else m) ∧ mulE p q = (if 4611686018427387904 < m then 41 else 0) from ⟨by unfold mulV; rw [if_neg hbad, hm], by unfold mulE; rw [if_neg hbad, hm]⟩)
    have hI : MInv m 0 p 0 p q false (decide (4611686018427387904 < p)) := ⟨by omega, by omega, by omega, by omega, by omega, by rw [Int.zero_add]; exact hm, rfl, rfl, fun _ => rfl, fun _ => rfl⟩
    have HI := Lib.hid hI
    clear hI hbad hm
    go_enter Tryd.func12, Tryd.ntmps12
    go_wp2_with fail
    go_loopw [1, 6, 7, 8, 9] (fun qv nv fv bv ov wr => ∃ (N B n y q : Int) (far over : Bool), qv = .int .i64 q ∧ nv = .int .i64 n ∧ fv = .bool far ∧ bv = .int .i64 y ∧ ov = .bool over ∧ MInv m N B n y q far over ∧ Below w.heap.size w wr) (fun qv _ _ _ _ _ => (intOf qv).toNat)
    case atStart => exact ⟨0, p, 0, p, q, false, _, rfl, rfl, rfl, rfl, rfl, HI.out, Below.refl _ _⟩
    case round =>
      obtain ⟨N, B, n, y, q', far, over, rfl, rfl, rfl, rfl, rfl, hI, hb⟩ := hrel
      have HB := Lib.hid hb
      clear hb HI d1 d2
      by_cases hq0 : 0 < q'
      · have d1 : decide (0 < q') = true := decide_eq_true hq0
        obtain ⟨v2, e2, hve2⟩ := sum_cases y y
        have S2 := Lib.hid (rsum_new y y hI.y0 hI.y0 v2 e2 hve2)
        by_cases hodd : q' % 2 = 1
        · have d2 : (q' % 2 == 1) = true := by rw [hodd]; rfl
          obtain ⟨v1, e1, hve1⟩ := sum_cases n y
          have S1 := Lib.hid (rsum_new n y (by have := hI.n0; omega) hI.y0 v1 e1 hve1)
          have hqr := hI.q0
          have K1 := Lib.hid (⟨hI, hve1, hve2, hodd, hq0⟩ : MInv m N B n y q' far over ∧ ((n + y ≤ 4611686018427387904 ∧ v1 = n + y ∧ e1 = 0) ∨ (4611686018427387904 < n + y ∧ v1 = 0 ∧ e1 = 41)) ∧ ((y + y ≤ 4611686018427387904 ∧ v2 = y + y ∧ e2 = 0) ∨ (4611686018427387904 < y + y ∧ v2 = 0 ∧ e2 = 41)) ∧ q' % 2 = 1 ∧ 0 < q')
          obtain ⟨x1, dx1⟩ : ∃ x, (e1 != 0) = x := ⟨_, rfl⟩
          obtain ⟨x2, dx2⟩ : ∃ x, (e2 != 0) = x := ⟨_, rfl⟩
          have hx1 : (x1 = false ∧ n + y ≤ 4611686018427387904 ∧ v1 = n + y) ∨ (x1 = true ∧ 4611686018427387904 < n + y ∧ v1 = 0) := by
            rcases hve1 with ⟨h1, h2, rfl⟩ | ⟨h1, h2, rfl⟩
            · exact .inl ⟨dx1.symm, h1, h2⟩
            · exact .inr ⟨dx1.symm, h1, h2⟩
          have hx2 : (x2 = false ∧ y + y ≤ 4611686018427387904 ∧ v2 = y + y) ∨ (x2 = true ∧ 4611686018427387904 < y + y ∧ v2 = 0) := by
            rcases hve2 with ⟨h1, h2, rfl⟩ | ⟨h1, h2, rfl⟩
            · exact .inl ⟨dx2.symm, h1, h2⟩
            · exact .inr ⟨dx2.symm, h1, h2⟩
          have HX1 := Lib.hid hx1
          have HX2 := Lib.hid hx2
          clear hI hve1 hve2 hodd hq0 hx1 hx2
          cases over <;> cases x1 <;> cases x2
          all_goals
            go_wp2_with fail
            refine (S1.out _).mono ?_
            rintro r w1 ⟨rfl, hb⟩
            have HB1 := Lib.hid (bel_trans HB.out hb)
            clear hb
            go_wp2_with fail
            refine (S2.out _).mono ?_
            rintro r w2 ⟨rfl, hb⟩
            have HB2 := Lib.hid (bel_trans HB1.out hb)
            clear hb
            go_wp2_with fail
            go_roundw
            case rel =>
              obtain ⟨hI, _, _, ho, hq0⟩ := K1.out
              have a1 := HX1.out
              have a2 := HX2.out
              have hov := hI.ov
              have hfr := hI.fr
              have hyB := hI.yB
              have hnN := hI.nN
              have := hI.N0
              have := hI.B0
              have := hI.n0
              have := hI.y0
              refine ⟨N + B, B + B, v1, v2, _, _, _, rfl, rfl, rfl, rfl, rfl, hI.half (N + B) v1 _ (by rw [half_odd _ _ _ ho]; exact hI.eq) (by omega) (by simp at a1; omega) ?_ ?_ v2 _ (by simp at a2; omega) (by simp at a2; first | exact .inl ⟨by omega, rfl⟩ | exact .inr ⟨by omega, rfl, by omega⟩), HB2.out⟩
              · simp at a1 hov hyB
                cases far <;> simp at hfr hnN ⊢ <;> omega
              · simp at a1 hov hyB
                cases far <;> simp at hfr hnN ⊢ <;> omega
            case measure => have := K1.out.2.2.2.2; simp [intOf]; omega
        · have d2 : (q' % 2 == 1) = false := by rw [beq_eq_false_iff_ne]; exact hodd
          have hqr := hI.q0
          obtain ⟨x2, dx2⟩ : ∃ x, (e2 != 0) = x := ⟨_, rfl⟩
          have hx2 : (x2 = false ∧ y + y ≤ 4611686018427387904 ∧ v2 = y + y) ∨ (x2 = true ∧ 4611686018427387904 < y + y ∧ v2 = 0) := by
            rcases hve2 with ⟨h1, h2, rfl⟩ | ⟨h1, h2, rfl⟩
            · exact .inl ⟨dx2.symm, h1, h2⟩
            · exact .inr ⟨dx2.symm, h1, h2⟩
          have K1 := Lib.hid (⟨hI, hodd, hq0⟩ : MInv m N B n y q' far over ∧ ¬ q' % 2 = 1 ∧ 0 < q')
          have HX2 := Lib.hid hx2
          clear hI hve2 hodd hq0 hx2
          cases x2
          all_goals
            go_wp2_with fail
            refine (S2.out _).mono ?_
            rintro r w2 ⟨rfl, hb⟩
            have HB2 := Lib.hid (bel_trans HB.out hb)
            clear hb
            go_wp2_with fail
            go_roundw
            case rel =>
              obtain ⟨hI, ho, hq0⟩ := K1.out
              have a2 := HX2.out
              have := hI.y0
              exact ⟨N, B + B, n, v2, _, _, _, rfl, rfl, rfl, rfl, rfl, hI.half N n _ (by rw [half_even _ _ _ (by omega)]; exact hI.eq) hI.N0 hI.n0 hI.fr hI.nN v2 _ (by simp at a2; omega) (by simp at a2; first | exact .inl ⟨by omega, rfl⟩ | exact .inr ⟨by omega, rfl, by omega⟩), HB2.out⟩
            case measure => have := K1.out.2.2; simp [intOf]; omega
      · have d1 : decide (0 < q') = false := decide_eq_false hq0
        have hz : q' = 0 := by have := hI.q0; omega
        have hNm : N = m := by have := hI.eq; rw [hz, Int.mul_zero, Int.add_zero] at this; exact this
        have hfr := hI.fr
        have hnN := hI.nN
        rw [hNm] at hfr hnN
        have HF := Lib.hid hfr
        have HN := Lib.hid hnN
        clear hI hfr hnN hz hNm
        cases far
        · go_wp2_with fail
          go_ret2
          have h1 := of_decide_eq_false HF.out.symm
          exact ⟨by rw [HV.out.1, HV.out.2, if_neg h1, if_neg h1, ← HN.out trivial]; rfl, HB.out⟩
        · go_wp2_with fail
          go_ret2
          have h1 := of_decide_eq_true HF.out.symm
          exact ⟨by rw [HV.out.1, HV.out.2, if_pos h1, if_pos h1]; rfl, HB.out⟩

set_option maxRecDepth 20000 in
theorem fees_law (a b f : Int) (ha : -9223372036854775808 ≤ a ∧ a ≤ 9223372036854775807) (hb : -9223372036854775808 ≤ b ∧ b ≤ 9223372036854775807) (hf : -9223372036854775808 ≤ f ∧ f ≤ 9223372036854775807) (w : World) (hR : RngT w) (hP : PowT w) :
    Calls Tryd.prog 3 #[.int .i64 a, .int .i64 b, .int .i64 f] w fun r w' => r = .returned (.bool true) ∧ Below w.heap.size w w' := by
  have HR := Lib.hid hR
  have HP := Lib.hid hP
  have K1 := Lib.hid (mul_any a b ha hb)
  have K2 := Lib.hid (rmul_any a b ha hb)
  have K3 := Lib.hid (feeG_any ha hf)
  have K4 := Lib.hid (rfee_any a f ha hf)
  clear hR hP
  go_enter Tryd.func3, Tryd.ntmps3
  go_wp2_with fail
  refine (K1.out _).mono ?_
  rintro r w1 ⟨rfl, rfl⟩
  go_wp2_with fail
  refine (K2.out _).mono ?_
  rintro r w2 ⟨rfl, hb2⟩
  have HB2 := Lib.hid hb2
  clear hb2
  go_wp2_with fail
  refine (K3.out _).mono ?_
  rintro r w3 ⟨rfl, hb3⟩
  have HB3 := Lib.hid (bel_trans HB2.out hb3)
  clear hb3
  go_wp2_with fail
  refine (K4.out _).mono ?_
  rintro r w4 ⟨rfl, rfl⟩
  go_wp2_with fail
  refine (awake_any _ (HR.out.keep HB3.out) (HP.out.keep HB3.out)).mono ?_
  rintro r w5 ⟨rfl, hb5⟩
  have HB5 := Lib.hid (bel_trans HB3.out hb5)
  clear hb5
  go_wp2_with fail
  go_ret
  exact ⟨rfl, HB5.out⟩
end Go.Proofs.YtikjnfghlohjkaaDoor
