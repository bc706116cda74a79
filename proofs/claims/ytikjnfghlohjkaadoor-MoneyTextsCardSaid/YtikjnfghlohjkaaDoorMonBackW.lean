/- souklaw03.MoneyBack: its walk. -/
import Derived.Test.YtikjnfghlohjkaaDoorMonK
import Derived.Test.YtikjnfghlohjkaaDoorMonAw
import Derived.Test.YtikjnfghlohjkaaDoorMonFairW
namespace Go.Proofs.YtikjnfghlohjkaaDoor
open Go.RowKit Go.Shelf Go.Lib

theorem am_len0 (u : Nat) (h : u < 18446744073709551616) : (decDigits (u / 100) ++ 46 :: two2 (u % 100)).length ≤ 23 := by
  rw [List.length_append, List.length_cons]
  have h1 := (dg_size (u / 100) (by omega)).1
  rw [← len_size, dg_list] at h1
  have h2 : (two2 (u % 100)).length = 2 := rfl
  omega
theorem sh_size (n : Int) (hn : -9223372036854775808 ≤ n ∧ n ≤ 9223372036854775807) : (shS n).size ≤ 24 := by
  rw [← len_size, sh_list, List.length_append]
  have := am_len0 n.natAbs (by omega)
  have h2 : (sgL n).length ≤ 1 := by unfold sgL; split <;> simp
  omega
theorem ve_ways (s : ByteArray) : (rE s ≠ 0 ∧ rV s = 0) ∨ (rE s = 0 ∧ shS (rV s) = s) := by
  by_cases h : rE s = 0
  · exact .inr ⟨h, parse_sh s h⟩
  · refine .inl ⟨h, ?_⟩
    unfold rE at h
    unfold rV
    by_cases hb : rBad (tl s) = true
    · rw [if_pos hb]
    · rw [if_neg hb] at h ⊢
      unfold pE at h
      unfold pV
      by_cases h1 : 4611686018427387904 < vl 0 (dg3 (tl s))
      · rw [if_pos h1]
      · rw [if_neg h1] at h ⊢
        by_cases h2 : pM s = true ∧ vl 0 (dg3 (tl s)) = 0
        · rw [if_pos h2]
        · rw [if_neg h2] at h; exact absurd rfl h
theorem rV_in (s : ByteArray) : -4611686018427387904 ≤ rV s ∧ rV s ≤ 4611686018427387904 := by
  unfold rV
  by_cases hb : rBad (tl s) = true
  · rw [if_pos hb]; omega
  · rw [if_neg hb]
    unfold pV
    by_cases h1 : 4611686018427387904 < vl 0 (dg3 (tl s))
    · rw [if_pos h1]; omega
    · rw [if_neg h1]
      by_cases h2 : pM s = true ∧ vl 0 (dg3 (tl s)) = 0
      · rw [if_pos h2]; omega
      · rw [if_neg h2]
        split <;> omega
/-- Show, of what it gives -/
theorem show_is (n : Int) (hn : -9223372036854775808 ≤ n ∧ n ≤ 9223372036854775807) (s : ByteArray) (h : shS n = s) (w : World) (hP : PowT w) : Calls Tryd.prog 19 #[.int .i64 n] w fun e w' => e = .returned (.string s) ∧ Below w.heap.size w w' := by
  have := show_any n hn w hP
  rw [h] at this
  exact this
set_option maxRecDepth 20000 in
set_option maxHeartbeats 4000000 in
theorem mback_law (n : Int) (s : ByteArray) (hn : -9223372036854775808 ≤ n ∧ n ≤ 9223372036854775807) (w : World) (hR : RngT w) (hP : PowT w) (hQ : RngP w) :
    Calls Tryd.prog 5 #[.int .i64 n, .string s] w fun r w' => r = .returned (.bool true) ∧ Below w.heap.size w w' := by
  have HR := Lib.hid hR
  have HP := Lib.hid hP
  have HQ := Lib.hid hQ
  clear hR hP hQ
  by_cases hs : 200 < s.size
  · have d1 : decide ((200 : Int) < (s.size : Int)) = true := decide_eq_true (by omega)
    clear hn hs
    go_enter Tryd.func5, Tryd.ntmps5
    go_wp2_with fail
    refine (awake_any _ HR.out HP.out).mono ?_
    rintro r w1 ⟨rfl, hb1⟩
    have HB1 := Lib.hid hb1
    clear hb1
    go_wp2_with fail
    go_ret
    exact ⟨rfl, HB1.out⟩
  have d1 : decide ((200 : Int) < (s.size : Int)) = false := decide_eq_false (by omega)
  obtain ⟨t, ht⟩ : ∃ t, shS n = t := ⟨_, rfl⟩
  have K1 := Lib.hid (show_is n hn t ht)
  have hpt : ParG t (rV t) (rE t) := parG_any t (by rw [← ht]; have := sh_size n hn; omega)
  have hsp := sh_parse n
  rw [ht] at hsp
  have hps := parG_any s (by omega)
  obtain ⟨V, hV⟩ : ∃ V, rV s = V := ⟨_, rfl⟩
  obtain ⟨E, hE⟩ : ∃ E, rE s = E := ⟨_, rfl⟩
  have hw := ve_ways s
  have hVi := rV_in s
  rw [hV, hE] at hps hw
  rw [hV] at hVi
  have K3 := Lib.hid hps
  have hvw : (E ≠ 0 ∧ V = 0) ∨ (E = 0 ∧ ∀ w, PowT w → Calls Tryd.prog 19 #[.int .i64 V] w fun e w' => e = .returned (.string s) ∧ Below w.heap.size w w') :=
    hw.imp id fun h => ⟨h.1, show_is V (by omega) s h.2⟩
  have HVW := Lib.hid hvw
  clear hps hw hVi hV hE ht hs hvw
  have hfar : (4611686018427387904 < n.natAbs ∧ rV t = 0 ∧ rE t = 41) ∨ (n.natAbs ≤ 4611686018427387904 ∧ rV t = n ∧ rE t = 0) := by
    by_cases h : 4611686018427387904 < n.natAbs
    · rw [if_pos h, if_pos h] at hsp; exact .inl ⟨h, hsp⟩
    · rw [if_neg h, if_neg h] at hsp; exact .inr ⟨by omega, hsp⟩
  clear hsp
  generalize rV t = v at *
  generalize rE t = e at *
  have K2 := Lib.hid hpt
  clear hpt
  rcases hfar with ⟨hf, rfl, rfl⟩ | ⟨hf, hv, rfl⟩
  · rcases (show (4611686018427387904 < n) ∨ (¬ 4611686018427387904 < n ∧ n < -4611686018427387904) by omega) with h1 | ⟨h1, h2⟩
    · have c1 : decide ((4611686018427387904 : Int) < n) = true := decide_eq_true h1
      clear hn hf h1
      rcases HVW.out with ⟨hE, rfl⟩ | ⟨rfl, k4⟩
      · have c2 : (E != 0) = true := by rw [bne_iff_ne]; exact hE
        go_enter Tryd.func5, Tryd.ntmps5
        go_wp2_with fail
        refine (awake_any _ HR.out HP.out).mono ?_
        rintro r w1 ⟨rfl, hb⟩
        have HB1 := Lib.hid hb
        clear hb
        go_wp2_with fail
        refine (K1.out _ (HP.out.keep HB1.out)).mono ?_
        rintro r w2 ⟨rfl, hb⟩
        have HB2 := Lib.hid (bel_trans HB1.out hb)
        clear hb
        go_wp2_with fail
        refine (K2.out _ (HQ.out.keep HB2.out) (HR.out.keep HB2.out)).mono ?_
        rintro r w3 ⟨rfl, hb⟩
        have HB3 := Lib.hid (bel_trans HB2.out hb)
        clear hb
        go_wp2_with fail
        refine (K3.out _ (HQ.out.keep HB3.out) (HR.out.keep HB3.out)).mono ?_
        rintro r w4 ⟨rfl, hb⟩
        have HB4 := Lib.hid (bel_trans HB3.out hb)
        clear hb
        go_wp2_with fail
        go_ret
        exact ⟨rfl, HB4.out⟩
      · have K4 := Lib.hid k4
        clear k4
        go_enter Tryd.func5, Tryd.ntmps5
        go_wp2_with fail
        refine (awake_any _ HR.out HP.out).mono ?_
        rintro r w1 ⟨rfl, hb⟩
        have HB1 := Lib.hid hb
        clear hb
        go_wp2_with fail
        refine (K1.out _ (HP.out.keep HB1.out)).mono ?_
        rintro r w2 ⟨rfl, hb⟩
        have HB2 := Lib.hid (bel_trans HB1.out hb)
        clear hb
        go_wp2_with fail
        refine (K2.out _ (HQ.out.keep HB2.out) (HR.out.keep HB2.out)).mono ?_
        rintro r w3 ⟨rfl, hb⟩
        have HB3 := Lib.hid (bel_trans HB2.out hb)
        clear hb
        go_wp2_with fail
        refine (K3.out _ (HQ.out.keep HB3.out) (HR.out.keep HB3.out)).mono ?_
        rintro r w4 ⟨rfl, hb⟩
        have HB4 := Lib.hid (bel_trans HB3.out hb)
        clear hb
        go_wp2_with fail
        refine (K4.out _ (HP.out.keep HB4.out)).mono ?_
        rintro r w5 ⟨rfl, hb⟩
        have HB5 := Lib.hid (bel_trans HB4.out hb)
        clear hb
        go_wp2_with fail
        go_ret
        exact ⟨rfl, HB5.out⟩
    · have c1 : decide ((4611686018427387904 : Int) < n) = false := decide_eq_false h1
      have c2 : decide (n < -4611686018427387904) = true := decide_eq_true h2
      clear hn hf h1 h2
      rcases HVW.out with ⟨hE, rfl⟩ | ⟨rfl, k4⟩
      · have c2 : (E != 0) = true := by rw [bne_iff_ne]; exact hE
        go_enter Tryd.func5, Tryd.ntmps5
        go_wp2_with fail
        refine (awake_any _ HR.out HP.out).mono ?_
        rintro r w1 ⟨rfl, hb⟩
        have HB1 := Lib.hid hb
        clear hb
        go_wp2_with fail
        refine (K1.out _ (HP.out.keep HB1.out)).mono ?_
        rintro r w2 ⟨rfl, hb⟩
        have HB2 := Lib.hid (bel_trans HB1.out hb)
        clear hb
        go_wp2_with fail
        refine (K2.out _ (HQ.out.keep HB2.out) (HR.out.keep HB2.out)).mono ?_
        rintro r w3 ⟨rfl, hb⟩
        have HB3 := Lib.hid (bel_trans HB2.out hb)
        clear hb
        go_wp2_with fail
        refine (K3.out _ (HQ.out.keep HB3.out) (HR.out.keep HB3.out)).mono ?_
        rintro r w4 ⟨rfl, hb⟩
        have HB4 := Lib.hid (bel_trans HB3.out hb)
        clear hb
        go_wp2_with fail
        go_ret
        exact ⟨rfl, HB4.out⟩
      · have K4 := Lib.hid k4
        clear k4
        go_enter Tryd.func5, Tryd.ntmps5
        go_wp2_with fail
        refine (awake_any _ HR.out HP.out).mono ?_
        rintro r w1 ⟨rfl, hb⟩
        have HB1 := Lib.hid hb
        clear hb
        go_wp2_with fail
        refine (K1.out _ (HP.out.keep HB1.out)).mono ?_
        rintro r w2 ⟨rfl, hb⟩
        have HB2 := Lib.hid (bel_trans HB1.out hb)
        clear hb
        go_wp2_with fail
        refine (K2.out _ (HQ.out.keep HB2.out) (HR.out.keep HB2.out)).mono ?_
        rintro r w3 ⟨rfl, hb⟩
        have HB3 := Lib.hid (bel_trans HB2.out hb)
        clear hb
        go_wp2_with fail
        refine (K3.out _ (HQ.out.keep HB3.out) (HR.out.keep HB3.out)).mono ?_
        rintro r w4 ⟨rfl, hb⟩
        have HB4 := Lib.hid (bel_trans HB3.out hb)
        clear hb
        go_wp2_with fail
        refine (K4.out _ (HP.out.keep HB4.out)).mono ?_
        rintro r w5 ⟨rfl, hb⟩
        have HB5 := Lib.hid (bel_trans HB4.out hb)
        clear hb
        go_wp2_with fail
        go_ret
        exact ⟨rfl, HB5.out⟩
  · subst hv
    have ISN := Lib.hid (show isB v 0 v = true by unfold isB; simp)
    have c1 : decide ((4611686018427387904 : Int) < v) = false := decide_eq_false (by omega)
    have c2 : decide (v < -4611686018427387904) = false := decide_eq_false (by omega)
    clear hn hf
    rcases HVW.out with ⟨hE, rfl⟩ | ⟨rfl, k4⟩
    · have c2 : (E != 0) = true := by rw [bne_iff_ne]; exact hE
      go_enter Tryd.func5, Tryd.ntmps5
      go_wp2_with fail
      refine (awake_any _ HR.out HP.out).mono ?_
      rintro r w1 ⟨rfl, hb⟩
      have HB1 := Lib.hid hb
      clear hb
      go_wp2_with fail
      refine (K1.out _ (HP.out.keep HB1.out)).mono ?_
      rintro r w2 ⟨rfl, hb⟩
      have HB2 := Lib.hid (bel_trans HB1.out hb)
      clear hb
      go_wp2_with fail
      refine (K2.out _ (HQ.out.keep HB2.out) (HR.out.keep HB2.out)).mono ?_
      rintro r w3 ⟨rfl, hb⟩
      have HB3 := Lib.hid (bel_trans HB2.out hb)
      clear hb
      go_wp2_with fail
      refine (is_yes v 0 v ISN.out _).mono ?_
      rintro r w' ⟨rfl, rfl⟩
      go_wp2_with fail
      refine (K3.out _ (HQ.out.keep HB3.out) (HR.out.keep HB3.out)).mono ?_
      rintro r w4 ⟨rfl, hb⟩
      have HB4 := Lib.hid (bel_trans HB3.out hb)
      clear hb
      go_wp2_with fail
      go_ret
      exact ⟨rfl, HB4.out⟩
    · have K4 := Lib.hid k4
      clear k4
      go_enter Tryd.func5, Tryd.ntmps5
      go_wp2_with fail
      refine (awake_any _ HR.out HP.out).mono ?_
      rintro r w1 ⟨rfl, hb⟩
      have HB1 := Lib.hid hb
      clear hb
      go_wp2_with fail
      refine (K1.out _ (HP.out.keep HB1.out)).mono ?_
      rintro r w2 ⟨rfl, hb⟩
      have HB2 := Lib.hid (bel_trans HB1.out hb)
      clear hb
      go_wp2_with fail
      refine (K2.out _ (HQ.out.keep HB2.out) (HR.out.keep HB2.out)).mono ?_
      rintro r w3 ⟨rfl, hb⟩
      have HB3 := Lib.hid (bel_trans HB2.out hb)
      clear hb
      go_wp2_with fail
      refine (is_yes v 0 v ISN.out _).mono ?_
      rintro r w' ⟨rfl, rfl⟩
      go_wp2_with fail
      refine (K3.out _ (HQ.out.keep HB3.out) (HR.out.keep HB3.out)).mono ?_
      rintro r w4 ⟨rfl, hb⟩
      have HB4 := Lib.hid (bel_trans HB3.out hb)
      clear hb
      go_wp2_with fail
      refine (K4.out _ (HP.out.keep HB4.out)).mono ?_
      rintro r w5 ⟨rfl, hb⟩
      have HB5 := Lib.hid (bel_trans HB4.out hb)
      clear hb
      go_wp2_with fail
      go_ret
      exact ⟨rfl, HB5.out⟩
end Go.Proofs.YtikjnfghlohjkaaDoor
