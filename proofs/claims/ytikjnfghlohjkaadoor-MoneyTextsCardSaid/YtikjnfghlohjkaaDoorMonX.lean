/- soukref03.Parse. -/
import Derived.Test.YtikjnfghlohjkaaDoorMonXL
namespace Go.Proofs.YtikjnfghlohjkaaDoor
open Go.RowKit Go.Shelf Go.Lib

theorem bad_ve {s : ByteArray} (h : rBad (tl s) = true) : rV s = 0 ∧ rE s = 4 := by
  unfold rV rE
  rw [if_pos h, if_pos h]
  exact ⟨rfl, rfl⟩
theorem sign_ways (s : ByteArray) : (pM s = true ∧ (∃ _ : 0 < s.size, s[0].toNat = 45) ∧ s.extract 1 s.size = pR s) ∨ (pM s = false ∧ pR s = s ∧ s.size = 0) ∨ (pM s = false ∧ pR s = s ∧ ∃ _ : 0 < s.size, s[0].toNat ≠ 45) := by
  have hl := len_size s
  cases hq : s.data.toList with
  | nil =>
    right; left
    rw [hq] at hl
    refine ⟨?_, ?_, hl.symm⟩
    · unfold pM; rw [hq]; rfl
    · apply ByteArray.ext; apply Array.toList_inj.1; unfold pR; rw [hq]; rfl
  | cons a r =>
    have h0 : 0 < s.size := by rw [← hl, hq]; simp
    have ha : s[0] = a := by
      show s.data.toList[0] = a
      simp only [hq, List.getElem_cons_zero]
    by_cases h : a = 45
    · subst h
      left
      refine ⟨?_, ⟨h0, by rw [ha]; rfl⟩, ?_⟩
      · unfold pM; rw [hq]; rfl
      · apply ByteArray.ext; apply Array.toList_inj.1; unfold pR; rw [ByteArray.data_extract, Array.toList_extract, ← hl, hq]
        simp [trimPrefix, hasPrefix, List.isPrefixOf]
    · right; right
      have hb : hasPrefix (a :: r) [45] = false := by unfold hasPrefix; simp [List.isPrefixOf, Ne.symm h]
      refine ⟨?_, ?_, ⟨h0, fun e => h (by rw [ha] at e; exact UInt8.toNat_inj.1 e)⟩⟩
      · unfold pM; rw [hq]; exact hb
      · apply ByteArray.ext; apply Array.toList_inj.1; unfold pR trimPrefix; rw [hq, hb]; simp
theorem get_data (t : ByteArray) (i : Nat) (h : i < t.size) : t.data.toList[i]? = some t[i] := by
  rw [List.getElem?_eq_getElem (show i < t.data.toList.length from h)]
  rfl
theorem head_data (t : ByteArray) (h : 0 < t.size) : t.data.toList.head? = some t[0] := by
  rw [List.head?_eq_getElem?, get_data t 0 h]
/-- the ways of a text t (behind its sign) -/
theorem tway (t : ByteArray) : (t.size < 4 ∧ rBad t.data.toList = true) ∨ (∃ k, t.size = k + 3 ∧ 1 ≤ k ∧ rBad t.data.toList = true ∧ ∃ _ : k < t.size, t[k].toNat ≠ 46) ∨
    (∃ k, t.size = k + 3 ∧ 1 < k ∧ rBad t.data.toList = true ∧ (∃ _ : k < t.size, t[k].toNat = 46) ∧ ∃ _ : 0 < t.size, t[0].toNat = 48) ∨
    (∃ k, t.size = k + 3 ∧ 1 ≤ k ∧ (∃ _ : k < t.size, t[k].toNat = 46) ∧ (k = 1 ∨ (1 < k ∧ ∃ _ : 0 < t.size, t[0].toNat ≠ 48)) ∧ t.data.toList[k]? = some 46 ∧ (t.data.toList.length = 4 ∨ t.data.toList.head? ≠ some 48)) := by
  by_cases h : t.size < 4
  · refine .inl ⟨h, ?_⟩
    unfold rBad
    rw [len_size, decide_eq_true h]; rfl
  obtain ⟨k, hk⟩ : ∃ k, t.size = k + 3 := ⟨t.size - 3, by omega⟩
  have hl : t.data.toList.length = k + 3 := hk
  have hkt : k < t.size := by omega
  by_cases h1 : t[k].toNat = 46
  · by_cases h2 : 1 < k
    · by_cases h3 : t[0].toNat = 48
      · refine .inr (.inr (.inl ⟨k, hk, h2, ?_, ⟨hkt, h1⟩, ⟨by omega, h3⟩⟩))
        have h4 : (t.data.toList.head? == some 48) = true := by
          rw [head_data _ (by omega), beq_iff_eq]
          exact congrArg some (UInt8.toNat_inj.1 h3)
        unfold rBad
        rw [h4, hl, decide_eq_true (show 4 < k + 3 by omega)]; simp
      · refine .inr (.inr (.inr ⟨k, hk, by omega, ⟨hkt, h1⟩, .inr ⟨h2, by omega, h3⟩, ?_, .inr ?_⟩))
        · rw [get_data _ _ hkt]; exact congrArg some (UInt8.toNat_inj.1 h1)
        · intro e
          rw [head_data _ (by omega)] at e
          exact h3 (by rw [Option.some.inj e]; rfl)
    · refine .inr (.inr (.inr ⟨k, hk, by omega, ⟨hkt, h1⟩, .inl (by omega), ?_, .inl (by omega)⟩))
      rw [get_data _ _ hkt]; exact congrArg some (UInt8.toNat_inj.1 h1)
  · refine .inr (.inl ⟨k, hk, by omega, ?_, ⟨hkt, h1⟩⟩)
    have h2 : (t.data.toList[k]? != some 46) = true := by
      rw [get_data _ _ hkt, bne_iff_ne]
      intro e
      exact h1 (by rw [Option.some.inj e]; rfl)
    unfold rBad
    rw [hl, show k + 3 - 3 = k by omega, h2]; simp
/-- the loop's relation -/
def PRel (t : ByteArray) (k : Nat) (nv fv iv : Value) : Prop := ∃ (i : Nat) (n : Int) (far : Bool), i ≤ t.size ∧ nv = .int .i64 n ∧ fv = .bool far ∧ iv = .int .i64 i ∧ RInv t.data.toList k i n far
theorem ve_eq {a b c d : Int} (h1 : a = c) (h2 : b = d) : Ending.returned (.tuple #[.int .i64 a, .int .i64 b]) = .returned (.tuple #[.int .i64 c, .int .i64 d]) := by rw [h1, h2]
set_option maxRecDepth 20000 in
set_option maxHeartbeats 8000000 in
theorem rparse_any (s : ByteArray) (hs : s.size ≤ 1000) (w : World) : Calls Tryd.prog 18 #[.string s] w fun e w' => e = .returned (.tuple #[.int .i64 (rV s), .int .i64 (rE s)]) ∧ w' = w := by
  obtain ⟨t, ht⟩ : ∃ t, pR s = t := ⟨_, rfl⟩
  have hts : t.size ≤ 1000 := by rw [← ht]; have := pR_size s; omega
  have hb := tway t
  have htl : tl s = t.data.toList := by unfold tl; rw [ht]
  have hends : ∀ a e : Int, a = rV s → e = rE s → Ending.returned (.tuple #[.int .i64 a, .int .i64 e]) = .returned (.tuple #[.int .i64 (rV s), .int .i64 (rE s)]) := fun a e h1 h2 => ve_eq h1 h2
  have hfin := fun (n : Int) (far : Bool) => RInv.done (s := s) (n := n) (far := far)
  have hbd := fun (h : rBad t.data.toList = true) => bad_ve (s := s) (by rw [htl]; exact h)
  rw [htl] at hfin
  generalize rV s = V at *
  generalize rE s = E at *
  have HE := Lib.hid hends
  have HBD := Lib.hid hbd
  have HT := Lib.hid ht
  rcases hb with ⟨h, hbad⟩ | ⟨k, hk, h1, hbad, hkt, hp⟩ | ⟨k, hk, h1, hbad, ⟨hkt, hp⟩, ⟨h2, h3⟩⟩ | ⟨k, hk, h1, ⟨hkt, hp⟩, h2, h3, h4⟩
  · obtain ⟨rfl, rfl⟩ := hbd hbad
    have d2 : decide ((t.size : Int) - 3 < 1) = true := decide_eq_true (by omega)
    clear hfin hbad hends hbd h
    rcases sign_ways s with ⟨hM, ⟨g0, g1⟩, hx⟩ | ⟨hM, hx, g0⟩ | ⟨hM, hx, g0, g1⟩
    · rw [ht] at hx
      have d0 : decide ((0 : Int) < (s.size : Int)) = true := decide_eq_true (by omega)
      have d1 : ((s[0].toNat : Int) == 45) = true := by rw [g1]; rfl
      clear g1
      clear hM ht
      go_enter Tryd.func18, Tryd.ntmps18
      go_wp2_with fail
      go_ret2
      exact ⟨rfl, rfl⟩
    · obtain rfl : t = s := ht.symm.trans hx
      have d0 : decide ((0 : Int) < (t.size : Int)) = false := decide_eq_false (by omega)
      clear hx
      clear hM ht
      go_enter Tryd.func18, Tryd.ntmps18
      go_wp2_with fail
      go_ret2
      exact ⟨rfl, rfl⟩
    · obtain rfl : t = s := ht.symm.trans hx
      have d0 : decide ((0 : Int) < (t.size : Int)) = true := decide_eq_true (by omega)
      have d1 : ((t[0].toNat : Int) == 45) = false := by rw [beq_eq_false_iff_ne]; omega
      clear g1 hx
      clear hM ht
      go_enter Tryd.func18, Tryd.ntmps18
      go_wp2_with fail
      go_ret2
      exact ⟨rfl, rfl⟩
  · obtain ⟨rfl, rfl⟩ := hbd hbad
    have e1 : (t.size : Int) - 3 = (k : Int) := by omega
    have d2 : decide ((k : Int) < 1) = false := decide_eq_false (by omega)
    have g2 : (0 : Int) ≤ (k : Int) := by omega
    have g3 : (k : Int) < (t.size : Int) := by omega
    have d3 : ((t[k].toNat : Int) != 46) = true := by rw [bne_iff_ne]; omega
    clear hfin hbad hends hbd hp hk
    rcases sign_ways s with ⟨hM, ⟨g0, g1⟩, hx⟩ | ⟨hM, hx, g0⟩ | ⟨hM, hx, g0, g1⟩
    · rw [ht] at hx
      have d0 : decide ((0 : Int) < (s.size : Int)) = true := decide_eq_true (by omega)
      have d1 : ((s[0].toNat : Int) == 45) = true := by rw [g1]; rfl
      clear g1
      clear hM ht
      go_enter Tryd.func18, Tryd.ntmps18
      go_wp2_with fail
      go_ret2
      exact ⟨rfl, rfl⟩
    · obtain rfl : t = s := ht.symm.trans hx
      have d0 : decide ((0 : Int) < (t.size : Int)) = false := decide_eq_false (by omega)
      clear hx
      clear hM ht
      go_enter Tryd.func18, Tryd.ntmps18
      go_wp2_with fail
      go_ret2
      exact ⟨rfl, rfl⟩
    · obtain rfl : t = s := ht.symm.trans hx
      have d0 : decide ((0 : Int) < (t.size : Int)) = true := decide_eq_true (by omega)
      have d1 : ((t[0].toNat : Int) == 45) = false := by rw [beq_eq_false_iff_ne]; omega
      clear g1 hx
      clear hM ht
      go_enter Tryd.func18, Tryd.ntmps18
      go_wp2_with fail
      go_ret2
      exact ⟨rfl, rfl⟩
  · obtain ⟨rfl, rfl⟩ := hbd hbad
    have e1 : (t.size : Int) - 3 = (k : Int) := by omega
    have d2 : decide ((k : Int) < 1) = false := decide_eq_false (by omega)
    have g2 : (0 : Int) ≤ (k : Int) := by omega
    have g3 : (k : Int) < (t.size : Int) := by omega
    have d3 : ((t[k].toNat : Int) != 46) = false := by rw [hp]; rfl
    have d4 : decide ((1 : Int) < (k : Int)) = true := decide_eq_true (by omega)
    have d5 : ((t[0].toNat : Int) == 48) = true := by rw [h3]; rfl
    clear hfin hbad hends hbd hp hk h3
    rcases sign_ways s with ⟨hM, ⟨g0, g1⟩, hx⟩ | ⟨hM, hx, g0⟩ | ⟨hM, hx, g0, g1⟩
    · rw [ht] at hx
      have d0 : decide ((0 : Int) < (s.size : Int)) = true := decide_eq_true (by omega)
      have d1 : ((s[0].toNat : Int) == 45) = true := by rw [g1]; rfl
      clear g1
      clear hM ht
      go_enter Tryd.func18, Tryd.ntmps18
      go_wp2_with fail
      go_ret2
      exact ⟨rfl, rfl⟩
    · obtain rfl : t = s := ht.symm.trans hx
      have d0 : decide ((0 : Int) < (t.size : Int)) = false := decide_eq_false (by omega)
      clear hx
      clear hM ht
      go_enter Tryd.func18, Tryd.ntmps18
      go_wp2_with fail
      go_ret2
      exact ⟨rfl, rfl⟩
    · obtain rfl : t = s := ht.symm.trans hx
      have d0 : decide ((0 : Int) < (t.size : Int)) = true := decide_eq_true (by omega)
      have d1 : ((t[0].toNat : Int) == 45) = false := by rw [beq_eq_false_iff_ne]; omega
      clear g1 hx
      clear hM ht
      go_enter Tryd.func18, Tryd.ntmps18
      go_wp2_with fail
      go_ret2
      exact ⟨rfl, rfl⟩
  · have e1 : (t.size : Int) - 3 = (k : Int) := by omega
    have d2 : decide ((k : Int) < 1) = false := decide_eq_false (by omega)
    have g2 : (0 : Int) ≤ (k : Int) := by omega
    have g3 : (k : Int) < (t.size : Int) := by omega
    have d3 : ((t[k].toNat : Int) != 46) = false := by rw [hp]; rfl
    rcases sign_ways s with ⟨hM, ⟨g0, g1⟩, hx⟩ | ⟨hM, hx, g0⟩ | ⟨hM, hx, g0, g1⟩
    · rw [ht] at hx
      have d0 : decide ((0 : Int) < (s.size : Int)) = true := decide_eq_true (by omega)
      have d1 : ((s[0].toNat : Int) == 45) = true := by rw [g1]; rfl
      clear g1
      have HF := Lib.hid hfin
      rw [hM] at HF
      have HRT := Lib.hid h3
      have HHD := Lib.hid h4
      have HK := Lib.hid hk
      clear hM ht hfin h3 h4 hk hends hbd hp
      go_enter Tryd.func18, Tryd.ntmps18
      rcases h2 with h2 | ⟨h2, h5, h6⟩
      · have d4 : decide ((1 : Int) < (k : Int)) = false := decide_eq_false (by omega)
        clear h2
        go_wp2_with fail
        go_loop [7, 8, 9] (fun nv fv iv => PRel t k nv fv iv) (fun _ _ iv => t.size - (RowKit.intOf iv).toNat)
        case atStart => exact ⟨0, 0, false, Nat.zero_le _, rfl, rfl, rfl, rinv_zero _ _⟩
        case round =>
          obtain ⟨i, n, far, hi, rfl, rfl, rfl, hI⟩ := hrel
          have hn0 := hI.n0
          have HI := Lib.hid hI
          clear hI
          by_cases hin : i < t.size
          · have c1 : decide ((i : Int) < (t.size : Int)) = true := decide_eq_true (by omega)
            have c2 : (i : Int) < (t.size : Int) := by omega
            have c3 : (0 : Int) ≤ (i : Int) := by omega
            by_cases hik : i = k
            · subst hik
              go_wp2_with fail
              refine ⟨⟨i + 1, n, far, by omega, rfl, rfl, val_int (by omega), HI.out.skip⟩, ?_⟩
              simp [RowKit.intOf]; omega
            · have c4 : ((i : Int) == (k : Int)) = false := by rw [beq_eq_false_iff_ne]; omega
              obtain ⟨c, hc⟩ : ∃ c, t[i].toNat = c := ⟨_, rfl⟩
              have hcb : c < 256 := by rw [← hc]; exact UInt8.toNat_lt _
              by_cases hd1 : c < 48
              · have c5 : decide ((c : Int) < 48) = true := decide_eq_true (by omega)
                have q := HBD.out (bad_digit t.data.toList (by have := HK.out; rw [len_size]; omega) i hin (by have := HK.out; rw [len_size]; omega) (by show ¬ (48 ≤ t[i].toNat ∧ t[i].toNat ≤ 57); omega))
                have Q := Lib.hid q
                clear q
                go_wp2_with fail
                go_ret2
                exact ⟨HE.out _ _ Q.out.1.symm Q.out.2.symm, rfl⟩
              by_cases hd2 : 57 < c
              · have c5 : decide ((c : Int) < 48) = false := decide_eq_false (by omega)
                have c6 : decide ((57 : Int) < (c : Int)) = true := decide_eq_true (by omega)
                have q := HBD.out (bad_digit t.data.toList (by have := HK.out; rw [len_size]; omega) i hin (by have := HK.out; rw [len_size]; omega) (by show ¬ (48 ≤ t[i].toNat ∧ t[i].toNat ≤ 57); omega))
                have Q := Lib.hid q
                clear q
                go_wp2_with fail
                go_ret2
                exact ⟨HE.out _ _ Q.out.1.symm Q.out.2.symm, rfl⟩
              · have c5 : decide ((c : Int) < 48) = false := decide_eq_false (by omega)
                have c6 : decide ((57 : Int) < (c : Int)) = false := decide_eq_false (by omega)
                obtain ⟨s1, s2⟩ := HI.out.step hin hik c hc (by omega)
                by_cases hfar : (4611686018427387904 - ((c : Int) - 48)) / 10 < n
                · have S1 := Lib.hid (s1 hfar)
                  clear s1 s2
                  go_wp2_with fail
                  refine ⟨⟨i + 1, 1, true, by omega, rfl, rfl, val_int (by omega), S1.out⟩, ?_⟩
                  simp [RowKit.intOf]; omega
                · have S2 := Lib.hid (s2 hfar)
                  clear s1 s2
                  go_wp2_with fail
                  refine ⟨⟨i + 1, _, far, by omega, rfl, rfl, val_int (by omega), S2.out⟩, ?_⟩
                  simp [RowKit.intOf]; omega
          · obtain rfl : i = t.size := by omega
            have hk2 : t.data.toList.length - 3 = k := by have := HK.out; rw [len_size]; omega
            have q := HF.out n far (by have := HK.out; rw [len_size]; omega) (by rw [hk2]; exact HI.out) (by rw [hk2]; exact HRT.out) HHD.out
            have Q := Lib.hid q
            clear q hk2
            cases far
            · by_cases hn : n = 0
              · subst hn
                go_wp2_with fail
                go_ret2
                have q := Q.out.2.1 (by simp) (by simp) (by simp)
                exact ⟨HE.out _ _ q.1.symm q.2.symm, rfl⟩
              · have c7 : (n == 0) = false := by rw [beq_eq_false_iff_ne]; exact hn
                go_wp2_with fail
                go_ret2
                have q := Q.out.2.2.1 (by simp) (by simp) hn
                exact ⟨HE.out _ _ q.1.symm q.2.symm, rfl⟩
            · go_wp2_with fail
              go_ret2
              have q := Q.out.1 (by simp)
              exact ⟨HE.out _ _ q.1.symm q.2.symm, rfl⟩
      · have d4 : decide ((1 : Int) < (k : Int)) = true := decide_eq_true (by omega)
        have d5 : ((t[0].toNat : Int) == 48) = false := by rw [beq_eq_false_iff_ne]; omega
        clear h6
        go_wp2_with fail
        go_loop [7, 8, 9] (fun nv fv iv => PRel t k nv fv iv) (fun _ _ iv => t.size - (RowKit.intOf iv).toNat)
        case atStart => exact ⟨0, 0, false, Nat.zero_le _, rfl, rfl, rfl, rinv_zero _ _⟩
        case round =>
          obtain ⟨i, n, far, hi, rfl, rfl, rfl, hI⟩ := hrel
          have hn0 := hI.n0
          have HI := Lib.hid hI
          clear hI
          by_cases hin : i < t.size
          · have c1 : decide ((i : Int) < (t.size : Int)) = true := decide_eq_true (by omega)
            have c2 : (i : Int) < (t.size : Int) := by omega
            have c3 : (0 : Int) ≤ (i : Int) := by omega
            by_cases hik : i = k
            · subst hik
              go_wp2_with fail
              refine ⟨⟨i + 1, n, far, by omega, rfl, rfl, val_int (by omega), HI.out.skip⟩, ?_⟩
              simp [RowKit.intOf]; omega
            · have c4 : ((i : Int) == (k : Int)) = false := by rw [beq_eq_false_iff_ne]; omega
              obtain ⟨c, hc⟩ : ∃ c, t[i].toNat = c := ⟨_, rfl⟩
              have hcb : c < 256 := by rw [← hc]; exact UInt8.toNat_lt _
              by_cases hd1 : c < 48
              · have c5 : decide ((c : Int) < 48) = true := decide_eq_true (by omega)
                have q := HBD.out (bad_digit t.data.toList (by have := HK.out; rw [len_size]; omega) i hin (by have := HK.out; rw [len_size]; omega) (by show ¬ (48 ≤ t[i].toNat ∧ t[i].toNat ≤ 57); omega))
                have Q := Lib.hid q
                clear q
                go_wp2_with fail
                go_ret2
                exact ⟨HE.out _ _ Q.out.1.symm Q.out.2.symm, rfl⟩
              by_cases hd2 : 57 < c
              · have c5 : decide ((c : Int) < 48) = false := decide_eq_false (by omega)
                have c6 : decide ((57 : Int) < (c : Int)) = true := decide_eq_true (by omega)
                have q := HBD.out (bad_digit t.data.toList (by have := HK.out; rw [len_size]; omega) i hin (by have := HK.out; rw [len_size]; omega) (by show ¬ (48 ≤ t[i].toNat ∧ t[i].toNat ≤ 57); omega))
                have Q := Lib.hid q
                clear q
                go_wp2_with fail
                go_ret2
                exact ⟨HE.out _ _ Q.out.1.symm Q.out.2.symm, rfl⟩
              · have c5 : decide ((c : Int) < 48) = false := decide_eq_false (by omega)
                have c6 : decide ((57 : Int) < (c : Int)) = false := decide_eq_false (by omega)
                obtain ⟨s1, s2⟩ := HI.out.step hin hik c hc (by omega)
                by_cases hfar : (4611686018427387904 - ((c : Int) - 48)) / 10 < n
                · have S1 := Lib.hid (s1 hfar)
                  clear s1 s2
                  go_wp2_with fail
                  refine ⟨⟨i + 1, 1, true, by omega, rfl, rfl, val_int (by omega), S1.out⟩, ?_⟩
                  simp [RowKit.intOf]; omega
                · have S2 := Lib.hid (s2 hfar)
                  clear s1 s2
                  go_wp2_with fail
                  refine ⟨⟨i + 1, _, far, by omega, rfl, rfl, val_int (by omega), S2.out⟩, ?_⟩
                  simp [RowKit.intOf]; omega
          · obtain rfl : i = t.size := by omega
            have hk2 : t.data.toList.length - 3 = k := by have := HK.out; rw [len_size]; omega
            have q := HF.out n far (by have := HK.out; rw [len_size]; omega) (by rw [hk2]; exact HI.out) (by rw [hk2]; exact HRT.out) HHD.out
            have Q := Lib.hid q
            clear q hk2
            cases far
            · by_cases hn : n = 0
              · subst hn
                go_wp2_with fail
                go_ret2
                have q := Q.out.2.1 (by simp) (by simp) (by simp)
                exact ⟨HE.out _ _ q.1.symm q.2.symm, rfl⟩
              · have c7 : (n == 0) = false := by rw [beq_eq_false_iff_ne]; exact hn
                go_wp2_with fail
                go_ret2
                have q := Q.out.2.2.1 (by simp) (by simp) hn
                exact ⟨HE.out _ _ q.1.symm q.2.symm, rfl⟩
            · go_wp2_with fail
              go_ret2
              have q := Q.out.1 (by simp)
              exact ⟨HE.out _ _ q.1.symm q.2.symm, rfl⟩
    · rw [ht.symm.trans hx] at hkt; omega
    · obtain rfl : t = s := ht.symm.trans hx
      have d0 : decide ((0 : Int) < (t.size : Int)) = true := decide_eq_true (by omega)
      have d1 : ((t[0].toNat : Int) == 45) = false := by rw [beq_eq_false_iff_ne]; omega
      clear g1 hx
      have HF := Lib.hid hfin
      rw [hM] at HF
      have HRT := Lib.hid h3
      have HHD := Lib.hid h4
      have HK := Lib.hid hk
      clear hM ht hfin h3 h4 hk hends hbd hp
      go_enter Tryd.func18, Tryd.ntmps18
      rcases h2 with h2 | ⟨h2, h5, h6⟩
      · have d4 : decide ((1 : Int) < (k : Int)) = false := decide_eq_false (by omega)
        clear h2
        go_wp2_with fail
        go_loop [7, 8, 9] (fun nv fv iv => PRel t k nv fv iv) (fun _ _ iv => t.size - (RowKit.intOf iv).toNat)
        case atStart => exact ⟨0, 0, false, Nat.zero_le _, rfl, rfl, rfl, rinv_zero _ _⟩
        case round =>
          obtain ⟨i, n, far, hi, rfl, rfl, rfl, hI⟩ := hrel
          have hn0 := hI.n0
          have HI := Lib.hid hI
          clear hI
          by_cases hin : i < t.size
          · have c1 : decide ((i : Int) < (t.size : Int)) = true := decide_eq_true (by omega)
            have c2 : (i : Int) < (t.size : Int) := by omega
            have c3 : (0 : Int) ≤ (i : Int) := by omega
            by_cases hik : i = k
            · subst hik
              go_wp2_with fail
              refine ⟨⟨i + 1, n, far, by omega, rfl, rfl, val_int (by omega), HI.out.skip⟩, ?_⟩
              simp [RowKit.intOf]; omega
            · have c4 : ((i : Int) == (k : Int)) = false := by rw [beq_eq_false_iff_ne]; omega
              obtain ⟨c, hc⟩ : ∃ c, t[i].toNat = c := ⟨_, rfl⟩
              have hcb : c < 256 := by rw [← hc]; exact UInt8.toNat_lt _
              by_cases hd1 : c < 48
              · have c5 : decide ((c : Int) < 48) = true := decide_eq_true (by omega)
                have q := HBD.out (bad_digit t.data.toList (by have := HK.out; rw [len_size]; omega) i hin (by have := HK.out; rw [len_size]; omega) (by show ¬ (48 ≤ t[i].toNat ∧ t[i].toNat ≤ 57); omega))
                have Q := Lib.hid q
                clear q
                go_wp2_with fail
                go_ret2
                exact ⟨HE.out _ _ Q.out.1.symm Q.out.2.symm, rfl⟩
              by_cases hd2 : 57 < c
              · have c5 : decide ((c : Int) < 48) = false := decide_eq_false (by omega)
                have c6 : decide ((57 : Int) < (c : Int)) = true := decide_eq_true (by omega)
                have q := HBD.out (bad_digit t.data.toList (by have := HK.out; rw [len_size]; omega) i hin (by have := HK.out; rw [len_size]; omega) (by show ¬ (48 ≤ t[i].toNat ∧ t[i].toNat ≤ 57); omega))
                have Q := Lib.hid q
                clear q
                go_wp2_with fail
                go_ret2
                exact ⟨HE.out _ _ Q.out.1.symm Q.out.2.symm, rfl⟩
              · have c5 : decide ((c : Int) < 48) = false := decide_eq_false (by omega)
                have c6 : decide ((57 : Int) < (c : Int)) = false := decide_eq_false (by omega)
                obtain ⟨s1, s2⟩ := HI.out.step hin hik c hc (by omega)
                by_cases hfar : (4611686018427387904 - ((c : Int) - 48)) / 10 < n
                · have S1 := Lib.hid (s1 hfar)
                  clear s1 s2
                  go_wp2_with fail
                  refine ⟨⟨i + 1, 1, true, by omega, rfl, rfl, val_int (by omega), S1.out⟩, ?_⟩
                  simp [RowKit.intOf]; omega
                · have S2 := Lib.hid (s2 hfar)
                  clear s1 s2
                  go_wp2_with fail
                  refine ⟨⟨i + 1, _, far, by omega, rfl, rfl, val_int (by omega), S2.out⟩, ?_⟩
                  simp [RowKit.intOf]; omega
          · obtain rfl : i = t.size := by omega
            have hk2 : t.data.toList.length - 3 = k := by have := HK.out; rw [len_size]; omega
            have q := HF.out n far (by have := HK.out; rw [len_size]; omega) (by rw [hk2]; exact HI.out) (by rw [hk2]; exact HRT.out) HHD.out
            have Q := Lib.hid q
            clear q hk2
            cases far
            · go_wp2_with fail
              go_ret2
              have q := Q.out.2.2.2 (by simp) (by simp)
              exact ⟨HE.out _ _ q.1.symm q.2.symm, rfl⟩
            · go_wp2_with fail
              go_ret2
              have q := Q.out.1 (by simp)
              exact ⟨HE.out _ _ q.1.symm q.2.symm, rfl⟩
      · have d4 : decide ((1 : Int) < (k : Int)) = true := decide_eq_true (by omega)
        have d5 : ((t[0].toNat : Int) == 48) = false := by rw [beq_eq_false_iff_ne]; omega
        clear h6
        go_wp2_with fail
        go_loop [7, 8, 9] (fun nv fv iv => PRel t k nv fv iv) (fun _ _ iv => t.size - (RowKit.intOf iv).toNat)
        case atStart => exact ⟨0, 0, false, Nat.zero_le _, rfl, rfl, rfl, rinv_zero _ _⟩
        case round =>
          obtain ⟨i, n, far, hi, rfl, rfl, rfl, hI⟩ := hrel
          have hn0 := hI.n0
          have HI := Lib.hid hI
          clear hI
          by_cases hin : i < t.size
          · have c1 : decide ((i : Int) < (t.size : Int)) = true := decide_eq_true (by omega)
            have c2 : (i : Int) < (t.size : Int) := by omega
            have c3 : (0 : Int) ≤ (i : Int) := by omega
            by_cases hik : i = k
            · subst hik
              go_wp2_with fail
              refine ⟨⟨i + 1, n, far, by omega, rfl, rfl, val_int (by omega), HI.out.skip⟩, ?_⟩
              simp [RowKit.intOf]; omega
            · have c4 : ((i : Int) == (k : Int)) = false := by rw [beq_eq_false_iff_ne]; omega
              obtain ⟨c, hc⟩ : ∃ c, t[i].toNat = c := ⟨_, rfl⟩
              have hcb : c < 256 := by rw [← hc]; exact UInt8.toNat_lt _
              by_cases hd1 : c < 48
              · have c5 : decide ((c : Int) < 48) = true := decide_eq_true (by omega)
                have q := HBD.out (bad_digit t.data.toList (by have := HK.out; rw [len_size]; omega) i hin (by have := HK.out; rw [len_size]; omega) (by show ¬ (48 ≤ t[i].toNat ∧ t[i].toNat ≤ 57); omega))
                have Q := Lib.hid q
                clear q
                go_wp2_with fail
                go_ret2
                exact ⟨HE.out _ _ Q.out.1.symm Q.out.2.symm, rfl⟩
              by_cases hd2 : 57 < c
              · have c5 : decide ((c : Int) < 48) = false := decide_eq_false (by omega)
                have c6 : decide ((57 : Int) < (c : Int)) = true := decide_eq_true (by omega)
                have q := HBD.out (bad_digit t.data.toList (by have := HK.out; rw [len_size]; omega) i hin (by have := HK.out; rw [len_size]; omega) (by show ¬ (48 ≤ t[i].toNat ∧ t[i].toNat ≤ 57); omega))
                have Q := Lib.hid q
                clear q
                go_wp2_with fail
                go_ret2
                exact ⟨HE.out _ _ Q.out.1.symm Q.out.2.symm, rfl⟩
              · have c5 : decide ((c : Int) < 48) = false := decide_eq_false (by omega)
                have c6 : decide ((57 : Int) < (c : Int)) = false := decide_eq_false (by omega)
                obtain ⟨s1, s2⟩ := HI.out.step hin hik c hc (by omega)
                by_cases hfar : (4611686018427387904 - ((c : Int) - 48)) / 10 < n
                · have S1 := Lib.hid (s1 hfar)
                  clear s1 s2
                  go_wp2_with fail
                  refine ⟨⟨i + 1, 1, true, by omega, rfl, rfl, val_int (by omega), S1.out⟩, ?_⟩
                  simp [RowKit.intOf]; omega
                · have S2 := Lib.hid (s2 hfar)
                  clear s1 s2
                  go_wp2_with fail
                  refine ⟨⟨i + 1, _, far, by omega, rfl, rfl, val_int (by omega), S2.out⟩, ?_⟩
                  simp [RowKit.intOf]; omega
          · obtain rfl : i = t.size := by omega
            have hk2 : t.data.toList.length - 3 = k := by have := HK.out; rw [len_size]; omega
            have q := HF.out n far (by have := HK.out; rw [len_size]; omega) (by rw [hk2]; exact HI.out) (by rw [hk2]; exact HRT.out) HHD.out
            have Q := Lib.hid q
            clear q hk2
            cases far
            · go_wp2_with fail
              go_ret2
              have q := Q.out.2.2.2 (by simp) (by simp)
              exact ⟨HE.out _ _ q.1.symm q.2.symm, rfl⟩
            · go_wp2_with fail
              go_ret2
              have q := Q.out.1 (by simp)
              exact ⟨HE.out _ _ q.1.symm q.2.symm, rfl⟩
end Go.Proofs.YtikjnfghlohjkaaDoor
