/- souklaw11.SegNames: its walk. (Printed by wip/gen_snames.py.) -/
import Derived.Test.YtaonjbkkgeiniaaGreatDoorSgNa
namespace Go.Proofs.YtaonjbkkgeiniaaGreatDoor
open Go.RowKit

set_option maxRecDepth 100000 in
set_option maxHeartbeats 32000000 in
theorem snames_any (w : World) (h : Laid w) : Calls Tryz.prog 3 #[] w fun e w' => e = .returned (.bool true) ∧ Below w.heap.size w w' := by
  have HL := Lib.hid h
  clear h
  have kh := head_to 1048576 0 (bs (hdrL 1048576)) (by unfold hdA; rw [if_pos (by omega)]; rfl) (by unfold hdX; rw [if_pos (by omega)])
  have kf := first_to hv_last
  have ks := fun w => first_to (s := (bs (hdrL 1048576)).extract 0 15) (hv_short (by show ((bs (hdrL 1048576)).extract 0 15).size < 16; rw [ByteArray.size_extract, size_bs, hdr_len]; decide)) w
  have hHs : (bs (hdrL 1048576)).size = 16 := by rw [size_bs, hdr_len]
  generalize bs (hdrL 1048576) = H at *
  have KH := Lib.hid kh
  have KF := Lib.hid kf
  have KS := Lib.hid ks
  clear kh kf ks
  have kr := fun w => rseal_str (⟨#[115, 101, 103, 49, 0, 0, 0, 0, 0, 16, 0, 1]⟩ : ByteArray) w (by decide)
  have kq := first_to hv_far
  generalize bs (sealL (⟨#[115, 101, 103, 49, 0, 0, 0, 0, 0, 16, 0, 1]⟩ : ByteArray).data.toList) = Q at *
  have KR := Lib.hid kr
  have KQ := Lib.hid kq
  clear kr kq
  go_enter Tryz.func3, Tryz.ntmps3
  go_wp2_with fail
  refine (awake_any w HL.out).mono ?_
  rintro e w1 ⟨rfl, hb1⟩
  have HB1 := Lib.hid hb1
  clear hb1
  go_wp2_with fail
  obtain ⟨W1, eW1⟩ : ∃ W1, w1.alloc (.cells #[.string ⟨#[]⟩, .string ⟨#[115]⟩, .string ⟨#[115, 45]⟩, .string ⟨#[115, 48, 48, 48, 48, 48, 48, 48, 51, 45]⟩, .string ⟨#[115, 51, 45, 49, 55]⟩, .string ⟨#[115, 48, 48, 48, 48, 48, 48, 48, 51, 45, 48, 48, 48, 48, 48, 48, 48, 48, 48, 49, 55]⟩, .string ⟨#[115, 48, 48, 48, 48, 48, 48, 48, 51, 95, 48, 48, 48, 48, 48, 48, 48, 48, 49, 55]⟩, .string ⟨#[83, 48, 48, 48, 48, 48, 48, 48, 51, 45, 48, 48, 48, 48, 48, 48, 48, 48, 49, 55]⟩, .string ⟨#[115, 48, 48, 48, 48, 48, 48, 48, 43, 45, 48, 48, 48, 48, 48, 48, 48, 48, 49, 55]⟩, .string ⟨#[115, 48, 48, 48, 48, 48, 48, 48, 51, 45, 48, 48, 48, 57, 57, 57, 57, 57, 57, 57]⟩, .string ⟨#[110, 48, 48, 48, 48, 48, 48, 48, 48, 49, 55]⟩, .string ⟨#[32, 115, 48, 48, 48, 48, 48, 48, 48, 51, 45, 48, 48, 48, 48, 48, 48, 48, 48, 49, 55]⟩, .string ⟨#[115, 45, 48, 48, 48, 48, 48, 48, 51, 45, 48, 48, 48, 48, 48, 48, 48, 48, 49, 55]⟩] 9) = W1 := ⟨_, rfl⟩
  have hcl : ∀ k s, nmL[k]? = some s → W1.cell? ⟨w1.heap.size, k, none⟩ = some (.string s) := by
    intro k s hk
    rw [← eW1, World.cell?_alloc_new]
    have : (#[.string ⟨#[]⟩, .string ⟨#[115]⟩, .string ⟨#[115, 45]⟩, .string ⟨#[115, 48, 48, 48, 48, 48, 48, 48, 51, 45]⟩, .string ⟨#[115, 51, 45, 49, 55]⟩, .string ⟨#[115, 48, 48, 48, 48, 48, 48, 48, 51, 45, 48, 48, 48, 48, 48, 48, 48, 48, 48, 49, 55]⟩, .string ⟨#[115, 48, 48, 48, 48, 48, 48, 48, 51, 95, 48, 48, 48, 48, 48, 48, 48, 48, 49, 55]⟩, .string ⟨#[83, 48, 48, 48, 48, 48, 48, 48, 51, 45, 48, 48, 48, 48, 48, 48, 48, 48, 49, 55]⟩, .string ⟨#[115, 48, 48, 48, 48, 48, 48, 48, 43, 45, 48, 48, 48, 48, 48, 48, 48, 48, 49, 55]⟩, .string ⟨#[115, 48, 48, 48, 48, 48, 48, 48, 51, 45, 48, 48, 48, 57, 57, 57, 57, 57, 57, 57]⟩, .string ⟨#[110, 48, 48, 48, 48, 48, 48, 48, 48, 49, 55]⟩, .string ⟨#[32, 115, 48, 48, 48, 48, 48, 48, 48, 51, 45, 48, 48, 48, 48, 48, 48, 48, 48, 49, 55]⟩, .string ⟨#[115, 45, 48, 48, 48, 48, 48, 48, 51, 45, 48, 48, 48, 48, 48, 48, 48, 48, 49, 55]⟩] : Array Value) = (nmL.map Value.string).toArray := rfl
    rw [this]
    simp [hk]
  have HB2 := Lib.hid (show Below w.heap.size w W1 by rw [← eW1]; exact HB1.out.alloc HB1.out.size _)
  have HCL := Lib.hid hcl
  rw [eW1]
  clear eW1 hcl HB1
  generalize w1.heap.size = g at *
  go_loopw [46] (fun iv wr => ∃ k : Nat, k ≤ 13 ∧ iv = .int .i64 k ∧ Below W1.heap.size W1 wr) (fun iv _ => 13 - (RowKit.intOf iv).toNat)
  case atStart => exact ⟨0, by omega, rfl, Below.refl _ _⟩
  case round =>
    obtain ⟨k, hk, rfl, hb⟩ := hrel
    have HB := Lib.hid hb
    clear hb
    by_cases hin : k < 13
    · obtain ⟨s, hs, hsz, hnd⟩ := nm_bad k hin
      have x0 := (HB.out.cell (p := ⟨g, k, none⟩) (cell_lt (HCL.out k s hs))).trans (HCL.out k s hs)
      have hn := named_any s hsz wr (HL.out.keep (bel_trans HB2.out HB.out))
      rw [hnd] at hn
      have HN := Lib.hid hn
      have d2 : decide ((k : Int) < 13) = true := decide_eq_true (by omega)
      have g0 : (0 : Int) ≤ (k : Int) := by omega
      have g1 : (k : Int) < 13 := by omega
      clear hs hn hnd hsz
      go_wp2_with fail
      refine HN.out.mono ?_
      rintro e w2 ⟨rfl, hb⟩
      have HB3 := Lib.hid (bel_trans HB.out hb)
      clear hb
      go_wp2_with fail
      go_roundw
      case rel => exact ⟨k + 1, by omega, by go_num, HB3.out⟩
      case measure => simp [RowKit.intOf]; omega
    · obtain rfl : k = 13 := by omega
      have HB1 := Lib.hid (bel_trans HB2.out HB.out)
      clear HB HCL hin hk HB2
      go_wp2_with fail
      refine (head_to (-1) 1 ⟨#[]⟩ (by unfold hdA; rw [if_neg (by omega)]) (by unfold hdX; rw [if_neg (by omega)]) _).mono ?_
      rintro e x1 ⟨rfl, hb⟩
      have HB2 := Lib.hid (bel_trans HB1.out hb)
      clear hb
      go_wp2_with fail
      refine (head_to 1048577 1 ⟨#[]⟩ (by unfold hdA; rw [if_neg (by omega)]) (by unfold hdX; rw [if_neg (by omega)]) _).mono ?_
      rintro e x2 ⟨rfl, hb⟩
      have HB3 := Lib.hid (bel_trans HB2.out hb)
      clear hb
      go_wp2_with fail
      refine (KH.out _).mono ?_
      rintro e x3 ⟨rfl, hb⟩
      have HB4 := Lib.hid (bel_trans HB3.out hb)
      clear hb
      go_wp2_with fail
      refine (KF.out _).mono ?_
      rintro e x4 ⟨rfl, hb⟩
      have HB5 := Lib.hid (bel_trans HB4.out hb)
      clear hb
      go_wp2_with fail
      refine (KS.out _).mono ?_
      rintro e x5 ⟨rfl, hb⟩
      have HB6 := Lib.hid (bel_trans HB5.out hb)
      clear hb
      go_wp2_with fail
      refine (first_to hv_two _).mono ?_
      rintro e x6 ⟨rfl, hb⟩
      have HB7 := Lib.hid (bel_trans HB6.out hb)
      clear hb
      go_wp2_with fail
      refine (first_to hv_sum _).mono ?_
      rintro e x7 ⟨rfl, hb⟩
      have HB8 := Lib.hid (bel_trans HB7.out hb)
      clear hb
      go_wp2_with fail
      refine (join1_to 1048577 ⟨#[]⟩ (by decide) 1 (by decide) _).mono ?_
      rintro e x8 ⟨⟨_, rfl⟩, hb⟩
      have HB9 := Lib.hid (bel_trans HB8.out hb)
      clear hb
      go_wp2_with fail
      refine (join1_to 1048576 ⟨#[]⟩ (by decide) 4 (by decide) _).mono ?_
      rintro e x9 ⟨⟨_, rfl⟩, hb⟩
      have HB10 := Lib.hid (bel_trans HB9.out hb)
      clear hb
      go_wp2_with fail
      refine (join1_to 1048576 ⟨#[120]⟩ (by decide) 40 (by decide) _).mono ?_
      rintro e x10 ⟨⟨_, rfl⟩, hb⟩
      have HB11 := Lib.hid (bel_trans HB10.out hb)
      clear hb
      go_wp2_with fail
      refine (join1_to 1048575 ⟨#[120]⟩ (by decide) 0 (by decide) _).mono ?_
      rintro e x11 ⟨⟨_, rfl⟩, hb⟩
      have HB12 := Lib.hid (bel_trans HB11.out hb)
      clear hb
      obtain ⟨W2, hm2, ho2, hb2⟩ := mk_long x11
      have HO2 := Lib.hid ho2
      have HB13 := Lib.hid (bel_trans HB12.out hb2)
      clear ho2 hb2
      go_wp2_with fail
      clear hm2
      have HQ := Lib.hid (show w.heap.size ≤ x11.heap.size from HB12.out.size)
      generalize x11.heap.size = q at *
      have hB0 := HB13.out
      go_loopw [29] (fun iv wr => ∃ k : Nat, k ≤ 300 ∧ iv = .int .i64 k ∧ wr.ownsRow q 9 1 (.slice (some ⟨q, 0, none⟩) 300 300) 300 (stRow (lgL k)) ∧ Below w.heap.size w wr) (fun iv _ => 300 - (RowKit.intOf iv).toNat)
      case atStart => exact ⟨0, by omega, rfl, HO2.out, hB0⟩
      case round =>
        obtain ⟨k, hk, rfl, ho, hb⟩ := hrel
        clear hB0
        by_cases hin : k < 300
        · obtain ⟨W3, hm3, hc3, hb3⟩ := mk_bytes wr
          have ho3 := ownsRow_below ho hb3
          have f3 := ho3.frozenAt k
          have c3 := ho3.cellAt k (by omega)
          rw [lg_at k hin] at c3
          have hst := (ho3.stored k (.string zerS)).1
          rw [lg_set k hin] at hst
          have HST := Lib.hid hst
          have hq := (ho.lt q rfl).2
          have HB3 := Lib.hid (bel_trans hb hb3)
          have d2 : decide ((k : Int) < 300) = true := decide_eq_true (by omega)
          have HQW := Lib.hid (show w.heap.size ≤ q from HQ.out)
          clear ho hb hb3 ho3 hst HO2
          go_wp2_with fail
          go_roundw
          case rel => exact ⟨k + 1, by omega, by go_num, HST.out, HB3.out.setCell (p := ⟨q, k, none⟩) HQW.out _⟩
          case measure => simp [RowKit.intOf]; omega
        · obtain rfl : k = 300 := by omega
          have hz9 : lgL 300 = zerZ := by unfold lgL zerZ; simp
          rw [hz9] at ho
          obtain ⟨oz, cz, ez, hsz⟩ := strs_of_own ho (by omega) (fun s hs => by unfold zerZ at hs; rw [List.eq_of_mem_replicate hs, zer_size]; omega)
          cases ez
          have HSZ := Lib.hid hsz
          have HB1 := Lib.hid hb
          clear ho hb hsz hz9 hin hk HO2
          have hj := join_any 0 zerZ wr HSZ.out
          rw [zz_join] at hj
          obtain ⟨S, eS⟩ : ∃ S, bs (jnL 0 (paysL zerZ)) = S := ⟨_, rfl⟩
          rw [eS] at hj
          have HJ := Lib.hid hj
          clear hj eS
          go_wp2_with fail
          refine (HJ.out).mono ?_
          rintro e x1 ⟨rfl, hb⟩
          have HSY := Lib.hid (strs_keep HSZ.out hb)
          have HB2 := Lib.hid (bel_trans HB1.out hb)
          clear hb
          go_wp2_with fail
          refine (split_to 0 65536 zerZ 0 20 zz_E zz_N (by omega) _ HSY.out).mono ?_
          rintro e x2 ⟨⟨o1, c1, rfl⟩, hb⟩
          have HB3 := Lib.hid (bel_trans HB2.out hb)
          clear hb
          go_wp2_with fail
          refine (split_to 0 63 [] 1 0 e_63 (n_bad (by rw [e_63]; decide)) (by omega) _ (strsIn_nil _)).mono ?_
          rintro e x3 ⟨⟨o2, c2, rfl⟩, hb⟩
          have HB4 := Lib.hid (bel_trans HB3.out hb)
          clear hb
          go_wp2_with fail
          refine (split_to 0 65537 [] 1 0 e_37 (n_bad (by rw [e_37]; decide)) (by omega) _ (strsIn_nil _)).mono ?_
          rintro e x4 ⟨⟨o3, c3, rfl⟩, hb⟩
          have HB5 := Lib.hid (bel_trans HB4.out hb)
          clear hb
          go_wp2_with fail
          refine (split_to 7 64 [] 0 1 e_64 n_64 (by omega) _ (strsIn_nil _)).mono ?_
          rintro e x5 ⟨⟨o4, c4, rfl⟩, hb⟩
          have HB6 := Lib.hid (bel_trans HB5.out hb)
          clear hb
          go_wp2_with fail
          refine (KR.out _).mono ?_
          rintro e x6 ⟨rfl, hb⟩
          have HB7 := Lib.hid (bel_trans HB6.out hb)
          clear hb
          go_wp2_with fail
          refine (KQ.out _).mono ?_
          rintro e x7 ⟨rfl, hb⟩
          have HB8 := Lib.hid (bel_trans HB7.out hb)
          clear hb
          go_wp2_with fail
          refine (name_to (-1) 0 ⟨#[]⟩ (nm_none (by omega)) _ (HL.out.keep HB8.out).pow).mono ?_
          rintro e x8 ⟨rfl, hb⟩
          have HB9 := Lib.hid (bel_trans HB8.out hb)
          clear hb
          go_wp2_with fail
          refine (name_to 100000000 0 ⟨#[]⟩ (nm_none (by omega)) _ (HL.out.keep HB9.out).pow).mono ?_
          rintro e x9 ⟨rfl, hb⟩
          have HB10 := Lib.hid (bel_trans HB9.out hb)
          clear hb
          go_wp2_with fail
          refine (name_to 0 (-1) ⟨#[]⟩ (nm_none (by omega)) _ (HL.out.keep HB10.out).pow).mono ?_
          rintro e x10 ⟨rfl, hb⟩
          have HB11 := Lib.hid (bel_trans HB10.out hb)
          clear hb
          go_wp2_with fail
          refine (name_to 0 1048577 ⟨#[]⟩ (nm_none (by omega)) _ (HL.out.keep HB11.out).pow).mono ?_
          rintro e x11 ⟨rfl, hb⟩
          have HB12 := Lib.hid (bel_trans HB11.out hb)
          clear hb
          go_wp2_with fail
          refine (name_to 99999999 1048576 _ nm_top _ (HL.out.keep HB12.out).pow).mono ?_
          rintro e x12 ⟨rfl, hb⟩
          have HB13 := Lib.hid (bel_trans HB12.out hb)
          clear hb
          go_wp2_with fail
          refine (fits_is 16 0 64 _ (by omega) (by omega) (by decide)).mono ?_
          rintro e w' ⟨rfl, rfl⟩
          go_wp2_with fail
          refine (fits_is 16 4097 65536 _ (by omega) (by omega) (by decide)).mono ?_
          rintro e w' ⟨rfl, rfl⟩
          go_wp2_with fail
          go_ret
          exact ⟨rfl, HB13.out⟩
end Go.Proofs.YtaonjbkkgeiniaaGreatDoor
