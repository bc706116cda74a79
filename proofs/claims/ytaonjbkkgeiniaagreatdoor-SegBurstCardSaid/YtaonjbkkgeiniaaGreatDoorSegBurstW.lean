/- souklaw11.SegBurst: its walk. -/
import Derived.Test.YtaonjbkkgeiniaaGreatDoorSgBl
import Derived.Test.YtaonjbkkgeiniaaGreatDoorSgW
namespace Go.Proofs.YtaonjbkkgeiniaaGreatDoor
open Go.RowKit

theorem first_ok (s : ByteArray) (n : Nat) (h : hdE s.data.toList = 0) (hn : hdF s.data.toList = n) (w : World) :
    Calls Tryz.prog 15 #[.string s] w fun e w' => e = .returned (.tuple #[.int .i64 n, .int .i64 0]) ∧ Below w.heap.size w w' := by
  have := first_any s w
  unfold hdV at this
  rw [if_pos h, hn] at this
  exact this
theorem first_bad (s : ByteArray) (k : Nat) (hk : k ≠ 0) (h : hdE s.data.toList = k) (w : World) :
    Calls Tryz.prog 15 #[.string s] w fun e w' => e = .returned (.tuple #[.int .i64 0, .int .i64 k]) ∧ Below w.heap.size w w' := by
  have := first_any s w
  unfold hdV at this
  rw [h, if_neg hk] at this
  exact this
set_option maxRecDepth 20000 in
set_option maxHeartbeats 8000000 in
theorem sburst_any (n : Int) (a : Int) (p : BitVec 32) (s : ByteArray) (w : World) (h : Laid w) :
    Calls Tryz.prog 11 #[.int .i64 n, .int .i64 a, .int .u32 p.toNat, .string s] w fun r w' => r = .returned (.bool true) ∧ Below w.heap.size w w' := by
  have HL := Lib.hid h
  clear h
  by_cases hs : 5000 < s.size
  · have d1 : decide ((5000 : Int) < (s.size : Int)) = true := decide_eq_true (by omega)
    clear hs
    go_enter Tryz.func11, Tryz.ntmps11
    go_wp2_with fail
    refine (awake_any _ HL.out).mono ?_
    rintro r w1 ⟨rfl, hb1⟩
    have HB1 := Lib.hid hb1
    clear hb1
    go_wp2_with fail
    go_ret
    exact ⟨rfl, HB1.out⟩
  have d1 : decide ((5000 : Int) < (s.size : Int)) = false := decide_eq_false (by omega)
  have hH := fun w => Header_any n w
  by_cases hn : 0 ≤ n ∧ n ≤ 1048576
  case neg =>
    simp only [if_neg hn] at hH
    have HH := Lib.hid hH
    clear hH hn hs
    go_enter Tryz.func11, Tryz.ntmps11
    go_wp2_with fail
    refine (awake_any _ HL.out).mono ?_
    rintro r w1 ⟨rfl, hb1⟩
    have HB1 := Lib.hid hb1
    clear hb1
    go_wp2_with fail
    refine (HH.out _).mono ?_
    rintro r w2 ⟨rfl, hb⟩
    have HB2 := Lib.hid (bel_trans HB1.out hb)
    clear hb
    go_wp2_with fail
    go_ret
    exact ⟨rfl, HB2.out⟩
  simp only [if_pos hn] at hH
  obtain ⟨m, rfl⟩ : ∃ m : Nat, n = m := ⟨n.toNat, by omega⟩
  rw [Int.toNat_natCast] at hH
  obtain ⟨x, ex⟩ : ∃ x, bs (hdrL m) = x := ⟨_, rfl⟩
  rw [ex] at hH
  have hxd : x.data.toList = hdrL m := by rw [← ex, bs_data]
  have hxs : x.size = 16 := by rw [← ex, size_bs, hdr_len]
  have hx16 : ((x.size : Int) != 16) = false := by rw [hxs]; rfl
  have K1 := Lib.hid (fun w => first_ok (x ++ s) m (by rw [data_app, hxd]; exact (hd_made m _ (by omega)).1) (by rw [data_app, hxd]; exact (hd_made m _ (by omega)).2) w)
  obtain ⟨f, hf, hfl⟩ := from_lt a x.size (by omega) (by omega)
  have KB := Lib.hid (fun (i : Nat) (hi : i ≤ 32) (hfi : f + i ≤ 8 * x.size) (t : ByteArray) (ht : t.data.toList = burstTo x.data.toList p f i) (hne : t ≠ x) =>
    (show hdE (t ++ s).data.toList = 42 ∨ hdE (t ++ s).data.toList = 4 by
      rw [data_app, ht, hxd]
      exact burst_head m p f i hi (by omega) (fun e => hne (ba_ext (by rw [ht, hxd, e]))) _))
  have HX := Lib.hid hxd
  have HXS := Lib.hid hxs
  have HH := Lib.hid hH
  have HS := Lib.hid hs
  have z1 : ¬ 9223372036854775807 < x.size + s.size := by omega
  have g1 : x.size ≤ 1000 := by omega
  clear hH ex hxd hxs hn hs
  go_enter Tryz.func11, Tryz.ntmps11
  go_wp2_with fail
  refine (awake_any _ HL.out).mono ?_
  rintro r w1 ⟨rfl, hb1⟩
  have HB1 := Lib.hid hb1
  clear hb1
  go_wp2_with fail
  refine (HH.out _).mono ?_
  rintro r w2 ⟨rfl, hb⟩
  have HB2 := Lib.hid (bel_trans HB1.out hb)
  clear hb
  go_wp2_with fail
  refine (K1.out _).mono ?_
  rintro r w3 ⟨rfl, hb⟩
  have HB3 := Lib.hid (bel_trans HB2.out hb)
  clear hb
  obtain ⟨cap, O, hcv, hby⟩ := conv_str w3 x
  have HB := Lib.hid hby
  clear hby
  go_wp2_with fail
  rw [hf]
  clear hf hcv
  go_loopw [15] (fun y wr => ∃ i : Nat, i ≤ 32 ∧ f + i ≤ 8 * x.size ∧ y = .int .i64 i ∧ bytesAt wr w3.heap.size (burstTo x.data.toList p f i) ∧ Below w3.heap.size w3 wr) (fun y _ => 32 - (intOf y).toNat)
  case atStart => exact ⟨0, by omega, by omega, rfl, HB.out, bel_drew (bel_alloc (Below.refl _ _) _)⟩
  case round =>
    obtain ⟨i, hi, hfi, rfl, hby, hbl⟩ := hrel
    clear HB
    have HB := Lib.hid hby
    have HBL := Lib.hid hbl
    clear hby hbl
    have hn' : (burstTo x.data.toList p f i).length = x.size := by rw [length_burst]; rfl
    by_cases h12 : i < 32 ∧ f + i < 8 * x.size
    · obtain ⟨h1, h2⟩ := h12
      have hk : (f + i) / 8 < (burstTo x.data.toList p f i).length := by rw [hn']; omega
      have hd1 : decide ((i : Int) < 32) = true := by simp; omega
      have hd2 : decide ((f : Int) + (i : Int) < 8 * (x.size : Int)) = true := by simp; omega
      by_cases hp : p.getLsbD i = true
      · have hbit := bit_true p i hp
        have hcell := HB.out.cell ((f + i) / 8) hk
        have hfr := HB.out.frozen ((f + i) / 8) hk
        have HK := Lib.hid hk
        have HP := Lib.hid hp
        clear hn' hk hp
        go_wp2_with fail
        go_roundw
        case rel =>
          refine ⟨i + 1, by omega, by omega, by go_num, ?_, HBL.out.setCell (Nat.le_refl _) _⟩
          show bytesAt _ _ (if p.getLsbD i then _ else _)
          rw [HP.out, bit8_val, gx_x8]; exact HB.out.store _ HK.out _
        case measure => simp [intOf]; omega
      · have hp' : p.getLsbD i = false := by simpa using hp
        have hbit := bit_false p i hp'
        have HP := Lib.hid hp'
        clear hn' hk hp hp'
        go_wp2_with fail
        go_roundw
        case rel =>
          refine ⟨i + 1, by omega, by omega, by go_num, ?_, HBL.out⟩
          show bytesAt wr _ (if p.getLsbD i then _ else _)
          rw [HP.out]; exact HB.out
        case measure => simp [intOf]; omega
    · obtain ⟨t, et⟩ : ∃ t : ByteArray, ⟨(burstTo x.data.toList p f i).toArray⟩ = t := ⟨_, rfl⟩
      have htd : t.data.toList = burstTo x.data.toList p f i := by rw [← et]
      have hts : t.size = x.size := by rw [← len_data, htd, hn']
      have hconv : ∀ W, Below (w3.heap.size + 1) wr W → (convert 32 9 (.slice (some ⟨w3.heap.size, 0, none⟩) x.size cap)).run Tryz.prog W = .ok (.string t) W := by
        intro W hW
        have := (HB.out.keep hW (Nat.lt_succ_self _)).conv x.size cap hn'
        rw [et] at this
        exact this
      have hsz : w3.heap.size + 1 ≤ wr.heap.size := HB.out.lt
      have hd1 : (decide ((i : Int) < 32) = true ∧ decide ((f : Int) + (i : Int) < 8 * (x.size : Int)) = false) ∨ decide ((i : Int) < 32) = false := by
        by_cases c : i < 32
        · exact .inl ⟨decide_eq_true (by omega), decide_eq_false (by omega)⟩
        · exact .inr (decide_eq_false (by omega))
      have c0 := hconv wr (Below.refl _ _)
      have HCV := Lib.hid hconv
      have HSZ := Lib.hid hsz
      have z2 : ¬ 9223372036854775807 < t.size + s.size := by rw [hts]; omega
      have HTD := Lib.hid htd
      have HBW := Lib.hid (bel_trans HB3.out HBL.out)
      clear hn' htd hts et hconv hsz h12 HBL HB
      by_cases heq : t = x
      · subst heq
        rcases hd1 with ⟨q1, q2⟩ | q1
        all_goals
          go_wp2_with fail
          refine (K1.out _).mono ?_
          rintro r w4 ⟨rfl, hb⟩
          have c1 := HCV.out w4 (hb.mono HSZ.out)
          have HB4 := Lib.hid (bel_trans HBW.out hb)
          clear hb c0
          go_wp2_with fail
          go_ret
          exact ⟨rfl, HB4.out⟩
      · have hne : (t.toList == x.toList) = false := by
          rw [beq_eq_false_iff_ne, ByteArray.toList_eq, ByteArray.toList_eq]
          intro h; exact heq (ba_ext h)
        have hE := KB.out i hi hfi t HTD.out heq
        have hF : ∃ E : Nat, (E = 42 ∨ E = 4) ∧ ∀ w, Calls Tryz.prog 15 #[.string (t ++ s)] w fun e w' => e = .returned (.tuple #[.int .i64 0, .int .i64 E]) ∧ Below w.heap.size w w' := by
          rcases hE with hE | hE
          · exact ⟨42, .inl rfl, fun w => first_bad _ 42 (by decide) hE w⟩
          · exact ⟨4, .inr rfl, fun w => first_bad _ 4 (by decide) hE w⟩
        obtain ⟨E, hEE, hF⟩ := hF
        have KF := Lib.hid hF
        clear hE hF heq
        rcases hd1 with ⟨q1, q2⟩ | q1
        all_goals
          rcases hEE with rfl | rfl
          all_goals
            go_wp2_with fail
            refine (KF.out _).mono ?_
            rintro r w4 ⟨rfl, hb⟩
            have c1 := HCV.out w4 (hb.mono HSZ.out)
            have HB4 := Lib.hid (bel_trans HBW.out hb)
            clear hb c0
            go_wp2_with fail
            go_ret
            exact ⟨rfl, HB4.out⟩
theorem sburst_law (n a c : Int) (s : ByteArray) (w : World) (hc : (Lit.int .u32 c).wf = true) (h : Laid w) :
    Calls Tryz.prog 11 #[.int .i64 n, .int .i64 a, .int .u32 c, .string s] w fun r w' => r = .returned (.bool true) ∧ Below w.heap.size w w' := by
  simp [Lit.wf, IntKind.min, IntKind.max, IntKind.signed, IntKind.bits] at hc
  obtain ⟨p, rfl⟩ : ∃ p : BitVec 32, c = (p.toNat : Int) := ⟨BitVec.ofNat 32 c.toNat, by rw [BitVec.toNat_ofNat]; omega⟩
  exact sburst_any n a p s w h
end Go.Proofs.YtaonjbkkgeiniaaGreatDoor
