/- souklaw11.SegTorn: its walk. (Printed by wip/gen_torn.py.) -/
import Derived.Test.YtaonjbkkgeiniaaGreatDoorSgTo
namespace Go.Proofs.YtaonjbkkgeiniaaGreatDoor
open Go.RowKit

set_option maxRecDepth 100000 in
set_option maxHeartbeats 32000000 in
theorem torn_any (f : Int) (oa : Option Addr) (len cap : Nat) (z : List ByteArray) (cut : Int) (ob : Option Addr) (len2 cap2 : Nat) (z2 : List ByteArray) (w : World) (hz : StrsIn w oa len cap z) (hz2 : StrsIn w ob len2 cap2 z2) (h : Laid w) :
    Calls Tryz.prog 8 #[.int .i64 f, .slice oa len cap, .int .i64 cut, .slice ob len2 cap2] w fun r w' => r = .returned (.bool true) ∧ Below w.heap.size w w' := by
  have HL := Lib.hid h
  have HZ := Lib.hid hz
  have HZ2 := Lib.hid hz2
  clear h hz hz2
  go_enter Tryz.func8, Tryz.ntmps8
  go_wp2_with fail
  refine (many_any _ _ _ z _ HZ.out).mono ?_
  rintro r w0 ⟨b, rfl, rfl, hsum⟩
  cases b with
  | true =>
    clear hsum
    go_wp2_with fail
    refine (awake_any _ HL.out).mono ?_
    rintro r w9 ⟨rfl, hb9⟩
    have HB9 := Lib.hid hb9
    clear hb9
    go_wp2_with fail
    go_ret
    exact ⟨rfl, HB9.out⟩
  | false =>
    have HSM := Lib.hid (hsum rfl)
    clear hsum
    go_wp2_with fail
    refine (many_any _ _ _ z2 _ HZ2.out).mono ?_
    rintro r w0 ⟨b, rfl, rfl, hsum⟩
    cases b with
    | true =>
      clear hsum
      go_wp2_with fail
      refine (awake_any _ HL.out).mono ?_
      rintro r w9 ⟨rfl, hb9⟩
      have HB9 := Lib.hid hb9
      clear hb9
      go_wp2_with fail
      go_ret
      exact ⟨rfl, HB9.out⟩
    | false =>
      have HSM2 := Lib.hid (hsum rfl)
      clear hsum
      go_wp2_with fail
      refine (awake_any _ HL.out).mono ?_
      rintro r w9 ⟨rfl, hb9⟩
      have HB9 := Lib.hid hb9
      clear hb9
      have hj := fun W (hW : StrsIn W oa len cap z) => join_any f z W hW
      by_cases hE : jnE f (paysL z) = 0
      case neg =>
        obtain ⟨E, hE1, hE2⟩ : ∃ E : Int, ((jnE f (paysL z) : Nat) : Int) = E ∧ (E != 0) = true := ⟨_, rfl, by rw [bne_iff_ne]; omega⟩
        have ej : bs (jnL f (paysL z)) = ⟨#[]⟩ := by unfold jnL; rw [if_neg hE]; rfl
        rw [hE1, ej] at hj
        have HJ := Lib.hid hj
        clear hj hE hE1 ej
        go_wp2_with fail
        refine (HJ.out _ (strs_keep HZ.out HB9.out)).mono ?_
        rintro r w1 ⟨rfl, hb⟩
        have HB1 := Lib.hid (bel_trans HB9.out hb)
        clear hb
        go_wp2_with fail
        go_ret
        exact ⟨rfl, HB1.out⟩
      case pos =>
        obtain ⟨j0, j1, j2, j3, j5⟩ := jn_ok hE
        obtain ⟨g, rfl⟩ : ∃ g : Nat, f = g := ⟨f.toNat, by omega⟩
        have ej : jnL (g : Int) (paysL z) = hdrL g ++ joinF g (paysL z) := by unfold jnL; rw [if_pos hE, Int.toNat_natCast]
        rw [hE] at hj
        obtain ⟨A, hA⟩ : ∃ A, bs (jnL (g : Int) (paysL z)) = A := ⟨_, rfl⟩
        rw [hA] at hj
        have hAd : A.data.toList = hdrL g ++ joinF g (paysL z) := by rw [← hA, bs_data, ej]
        have hAs : 16 + sizeF (paysL z) = A.size := by rw [← hA, size_bs, ej, List.length_append, hdr_len, join_len]
        have hsz : A.size ≤ 400000 := by have := size_sum z; have := HSM.out; omega
        have hl2 : len ≤ 20000 := by have := sumZ_len z; have := HSM.out; have := HZ.out.1; omega
        have HJ := Lib.hid (show ∀ W, StrsIn W oa len cap z → Calls Tryz.prog 16 #[.int .i64 (g : Int), .slice oa len cap] W fun e w' => e = .returned (.tuple #[.string A, .int .i64 0]) ∧ Below W.heap.size W w' from hj)
        rw [pays_len] at j1
        have hgl : g + len ≤ 1048576 := by have := HZ.out.1; omega
        have HOK := Lib.hid j5
        have HAD := Lib.hid hAd
        have HAS := Lib.hid hAs
        have h16 : 16 ≤ A.size := by omega
        clear j0 j1 j2 j3 j5 ej hj hA hAd hAs hE
        go_wp2_with fail
        refine (HJ.out _ (strs_keep HZ.out HB9.out)).mono ?_
        rintro r w1 ⟨rfl, hb⟩
        have HB1 := Lib.hid (bel_trans HB9.out hb)
        clear hb
        obtain ⟨K, hK, hKl⟩ := cut_lt cut ((A.size : Int) - 16 + 1) (by omega) (by omega)
        go_wp2_with fail
        have hz2 : len = len := rfl
        clear hz2
        obtain ⟨m, X, b, hm, hX, hw, hG, hbw, hcut, hok, k⟩ := torn_scan g z A (16 + K) (by omega) HOK.out HAD.out hsz (by omega) (by omega)
        have K2 := Lib.hid k
        have HX := Lib.hid hX
        have HW := Lib.hid hw
        have HCUT := Lib.hid hcut
        have HOK2 := Lib.hid hok
        rw [HZ.out.1] at hm
        obtain ⟨G, eG⟩ : ∃ G, endT z m = G := ⟨_, rfl⟩
        rw [eG] at K2 HCUT hG hbw
        have HEG := Lib.hid eG
        have hd3 : decide (16 + (K : Int) < (G : Int)) = false := decide_eq_false (by omega)
        have hd4 : decide ((len : Int) < (m : Int)) = false := decide_eq_false (by omega)
        have HBW := Lib.hid (show ((G : Int) == 16 + (K : Int)) = b from by rw [← hbw]; rfl)
        clear k hX hw hcut hok eG hbw
        refine (K2.out _).mono ?_
        rintro r w2 ⟨oc, cc, rfl, hx, hb⟩
        have HB2 := Lib.hid (bel_trans HB1.out hb)
        have HX1 := Lib.hid hx
        clear hb hx hK
        go_wp2_with fail
        obtain ⟨W2, hW2⟩ : ∃ W2, w2.alloc (.cells #[.int .i64 (g : Int), .slice oc m cc, .int .i64 (G : Int), .bool b] 46) = W2 := ⟨_, rfl⟩
        have hg2 : W2.heap[w2.heap.size]? = some (.cells #[.int .i64 (g : Int), .slice oc m cc, .int .i64 (G : Int), .bool b] 46) := by rw [← hW2]; exact heap_alloc_new _ _
        have hb2 : Below w.heap.size w W2 := by rw [← hW2]; exact HB2.out.alloc HB2.out.size _
        have hx2 := ownsRow_below HX1.out ((Below.refl w2.heap.size w2).alloc (Nat.le_refl _) (.cells #[.int .i64 (g : Int), .slice oc m cc, .int .i64 (G : Int), .bool b] 46))
        rw [hW2] at hx2 ⊢
        have HS2 := Lib.hid (show sbR w w2.heap.size (g : Int) (G : Int) oc m cc b W2 from ⟨hb2, hg2⟩)
        have HX2 := Lib.hid hx2
        clear hW2 hg2 hb2 hx2 HX1 HB2
        generalize w2.heap.size = gx at *
        have hd8 : (len < m) = False := eq_false (by omega)
        simp only [hd8, decide_false]
        clear hd8
        go_loopw [14, 15] (fun ev iv wr => ∃ i : Nat, i ≤ m ∧ ev = .int .i64 (endT z i : Nat) ∧ iv = .int .i64 i ∧ Below W2.heap.size W2 wr) (fun _ iv _ => len - (intOf iv).toNat)
        case atStart => exact ⟨0, Nat.zero_le _, rfl, rfl, Below.refl _ _⟩
        case round =>
          obtain ⟨i, hi, rfl, rfl, hb⟩ := hrel
          have HB3 := Lib.hid hb
          clear hb
          obtain ⟨c0, c1, c2, c3⟩ := sbR_cells (sbR_keep HS2.out HB3.out)
          have HBR := Lib.hid (sbR_keep HS2.out HB3.out)
          by_cases hil : i < len
          case neg =>
            obtain rfl : i = m := by omega
            rw [HEG.out]
            have hbw := HBW.out
            have d9 : decide ((i : Int) < (len : Int)) = false := decide_eq_false (by omega)
            have hgx := (Array.getElem?_eq_some_iff.1 HBR.out.2).1
            have hal := (Below.refl wr.heap.size wr).alloc (Nat.le_refl _) (.cells #[] 9)
            have k1 : (wr.alloc (.cells #[] 9)).cell? ⟨gx, 1, none⟩ = some (.slice oc i cc) := (hal.cell (p := ⟨gx, 1, none⟩) hgx).trans c1
            have hzr := strs_keep HZ.out HBR.out.1
            obtain ⟨o1, hs1, q1⟩ := slice_strs hzr i hm
            obtain ⟨v1, w4, r1, n1, g1⟩ := append_strs (wr.alloc (.cells #[] 9)) wr.heap.size 23 _ 0 _ (own_empty_s wr) o1 i cap _ (strs_keep q1 hal) (by omega) (by simp)
            rw [Nat.zero_add, show stRow [] ++ stRow (z.take i) = stRow (z.take i) from rfl] at n1
            have hw4 : Below wr.heap.size wr w4 := hal.grown g1 (by simp) (fun k hk => ((own_empty_s wr).lt k hk).1)
            have k2 : w4.cell? ⟨gx, 2, none⟩ = some (.int .i64 (G : Int)) := (hw4.cell (p := ⟨gx, 2, none⟩) hgx).trans c2
            have R1 := Lib.hid r1
            have N1 := Lib.hid n1
            have HB4 := Lib.hid (bel_trans HBR.out.1 hw4)
            have HBZ := Lib.hid hw4.size
            have htl : (z.take i).length = i := by rw [List.length_take, HZ.out.1]; omega
            have HTL := Lib.hid htl
            have hst := sumZ_take_le z i
            have hs1' := HSM.out
            have HST := Lib.hid (show sumZ (z.take i) ≤ 20000 by omega)
            have hl3 : len2 ≤ 20000 := by have := sumZ_len z2; have := HSM2.out; have := HZ2.out.1; omega
            have hGA : G ≤ A.size := by omega
            have HGA := Lib.hid hGA
            clear hal hzr q1 r1 n1 g1 hw4 htl hst hs1'
            go_wp2_with (at_builtin; refine list_append_run rfl (.tmp 162) (.tmp 167) 23 rfl _ _ _ _ rfl rfl R1.out ?_)
            obtain ⟨B, eB⟩ : ∃ B, wr.heap.size = B := ⟨_, rfl⟩
            have HBB := Lib.hid (show w.heap.size ≤ B by rw [← eB]; exact HBR.out.1.size)
            rw [eB] at N1 HBZ
            obtain ⟨i0, hi0, hz0, hz1, hz2⟩ := info_parts infoS
            have HI := Lib.hid (⟨hi0, hz0, hz1, hz2⟩ : Tryz.prog.info? 9 = some i0 ∧ i0.zero = some (Value.string ⟨#[]⟩) ∧ i0.size = 1 ∧ i0.bytes = 16)
            clear hi0 hz0 hz1 hz2 R1 hs1 k1 k2 c0 c1 c2 c3 eB hbw
            go_loopw [17, 18, 19] (fun av sv iv wx => ∃ (j : Nat) (q : List ByteArray) (S : ByteArray), j ≤ len2 ∧ iv = .int .i64 j ∧ sv = .string S ∧ S.data.toList = hdrL g ++ joinF g (paysL q) ∧ okF g (paysL q) ∧ wx.ownsRow B 9 1 av q.length (stRow q) ∧ Below w.heap.size w wx ∧ q.length ≤ 20000 + j ∧ sumZ q ≤ 20000 + sumZ (z2.take j) ∧ B ≤ wx.heap.size) (fun _ _ iv _ => len2 - (intOf iv).toNat)
            case atStart => exact ⟨0, z.take i, A.extract 0 G, Nat.zero_le _, rfl, rfl, HCUT.out, HOK2.out, by rw [HTL.out]; exact N1.out, HB4.out, by rw [HTL.out]; omega, by have := HST.out; omega, HBZ.out⟩
            case round =>
              obtain ⟨j, q, S, hj, rfl, rfl, hS, hq, hq2, hbx, hql, hsq, hBx⟩ := hrel
              obtain ⟨oq, cq, rfl⟩ := row_shape hq2
              have HSD := Lib.hid hS
              have HQ := Lib.hid hq
              have HQ2 := Lib.hid hq2
              have HBX := Lib.hid hbx
              have HSQ := Lib.hid hsq
              have HBXS := Lib.hid hBx
              have hts := sumZ_take_le z2 j
              have hm2 := HSM2.out
              have hss := seg_size hS
              have hsm := size_sum q
              have hS1 : S.size ≤ 900000 := by omega
              clear hS hq hq2 hbx hsq hBx hts hss hsm hm2
              by_cases hjl : j < len2
              case pos =>
                obtain ⟨s, es⟩ : ∃ s, z2.getD j ByteArray.empty = s := ⟨_, rfl⟩
                rcases HZ2.out.2.2.2.2 with h0 | ⟨bz, off, rfl, hbz, hcz⟩
                · omega
                have cz := (HBX.out.cell (p := ⟨bz, off + j, none⟩) hbz).trans (hcz j hjl)
                rw [es] at cz
                have HT := Lib.hid (sumZ_take (by rw [HZ2.out.1]; exact hjl) es)
                have hs2 : s.size ≤ 20000 := by have := sumZ_take_le z2 (j + 1); have := HSM2.out; have := HT.out; omega
                have e7 : IntKind.i64.wrap ((g : Int) + (q.length : Int)) = (g : Int) + (q.length : Int) := IntWalk.i64_in _ (by omega)
                have hmk := fun W => make_any ((g : Int) + (q.length : Int)) s W (by omega)
                by_cases hE : mkE ((g : Int) + (q.length : Int)) s = 0
                case neg =>
                  obtain ⟨E, hE1, hE2⟩ : ∃ E : Int, ((mkE ((g : Int) + (q.length : Int)) s : Nat) : Int) = E ∧ (E != 0) = true := ⟨_, rfl, by rw [bne_iff_ne]; omega⟩
                  rw [hE1] at hmk
                  generalize mkS ((g : Int) + (q.length : Int)) s = T at hmk
                  have HMK := Lib.hid hmk
                  clear hmk hE hE1 es hcz
                  go_wp2_with fail
                  refine (HMK.out _).mono ?_
                  rintro r w5 ⟨rfl, hb⟩
                  have HB5 := Lib.hid hb
                  clear hb
                  go_wp2_with fail
                  go_roundw
                  case rel => exact ⟨j + 1, q, S, by omega, by go_num, rfl, HSD.out, HQ.out, ownsRow_below HQ2.out HB5.out, bel_trans HBX.out HB5.out, by omega, by have := HT.out; have := HSQ.out; omega, Nat.le_trans HBXS.out HB5.out.size⟩
                  case measure => simp [intOf]; omega
                case pos =>
                  obtain ⟨t1, t2, t3⟩ := seg_snoc HSD.out HQ.out hE
                  rw [hE] at hmk
                  obtain ⟨T, eT⟩ : ∃ T, mkS ((g : Int) + (q.length : Int)) s = T := ⟨_, rfl⟩
                  rw [eT] at hmk t1 t3
                  have HT1 := Lib.hid t1
                  have HT2 := Lib.hid t2
                  have HMK := Lib.hid (show ∀ W, Calls Tryz.prog 36 #[.int .i64 ((g : Int) + (q.length : Int)), .string s] W fun e w' => e = .returned (.tuple #[.string T, .int .i64 0]) ∧ Below W.heap.size W w' from hmk)
                  have z1 : ¬ 9223372036854775807 < S.size + T.size := by omega
                  have hrow : stRow q ++ [.string s] = stRow (q ++ [s]) := by unfold stRow; rw [List.map_append]; rfl
                  have HROW := Lib.hid hrow
                  clear hmk hE es hcz t1 t2 t3 eT hrow
                  go_wp2_with fail
                  refine (HMK.out _).mono ?_
                  rintro r w5 ⟨rfl, hb⟩
                  have cz5 := (hb.cell (p := ⟨bz, off + j, none⟩) (cell_lt cz)).trans cz
                  have HQ5 := Lib.hid (ownsRow_below HQ2.out hb)
                  have HB5 := Lib.hid (bel_trans HBX.out hb)
                  have HBS5 := Lib.hid (Nat.le_trans HBXS.out hb.size)
                  clear hb cz HQ2
                  go_wp2_with (at_builtin; refine wpList_append_own _ rfl _ _ 23 rfl B 9 i0 (.string ⟨#[]⟩) 1 16 Tryz.underlying23 HI.out.1 HI.out.2.1 HI.out.2.2.1 HI.out.2.2.2 rfl (by decide) _ _ _ rfl (HQ5.out.alloc _) ⟨w5.heap.size, 0, none⟩ 1 1 [.string s] rfl rfl (cell_one_new _ _ _) (by simp [Value.oneCell']) (by unfold maxLen; omega) (by omega) (by have := HBS5.out; simp; omega) ?_)
                  intro v' w7 hown hgrow _
                  rw [HROW.out] at hown
                  have hb7 : Below w.heap.size w w7 := (HB5.out.alloc HB5.out.size _).grown hgrow (by have := HB5.out.size; simp; omega) (fun k hk => by have := (HQ5.out.lt k hk).1; have := HBB.out; omega)
                  have HO7 := Lib.hid hown
                  have HB7 := Lib.hid hb7
                  have HBS7 := Lib.hid (show B ≤ w7.heap.size by have := hgrow.size; have := HBS5.out; simp at *; omega)
                  clear hown hgrow hb7
                  go_wp2_with fail
                  go_roundw
                  case rel => exact ⟨j + 1, q ++ [s], S ++ T, by omega, by go_num, rfl, HT1.out, HT2.out, by rw [List.length_append]; exact HO7.out, HB7.out, by rw [List.length_append, List.length_singleton]; omega, by have := HT.out; have := HSQ.out; rw [sumZ_snoc]; omega, HBS7.out⟩
                  case measure => simp [intOf]; omega
              case neg =>
                obtain rfl : j = len2 := by omega
                have hsz2 := seg_size HSD.out
                have hsc := scanTo_of (s := S) (f := g) (ls := paysL q) (by rw [HSD.out]; exact seg_whole g (by omega) _ HQ.out) HQ.out (by omega)
                rw [pays_len, ← hsz2, decide_eq_true rfl, bs_pays] at hsc
                obtain ⟨X2, hX2, k⟩ := hsc
                have K3 := Lib.hid k
                have HX3 := Lib.hid hX2
                have hqs : ∀ p ∈ q, p.size ≤ 1000000 := fun p hp => by have := sumZ_mem hp; have := HSQ.out; have := sumZ_take_le z2 j; have := HSM2.out; omega
                have HQS := Lib.hid hqs
                have hql2 : q.length ≤ 40000 := by omega
                obtain ⟨c, hc⟩ : ∃ c, q.length = c := ⟨_, rfl⟩
                rw [hc] at HQ2 K3 HX3 hql2 ⊢
                have HC := Lib.hid hc
                clear k hX2 hsz2 hqs hc hql
                go_wp2_with fail
                refine (K3.out _).mono ?_
                rintro r w5 ⟨od, cd, rfl, hx, hb⟩
                have HB5 := Lib.hid (bel_trans HBX.out hb)
                have HQ5 := Lib.hid (ownsRow_below HQ2.out hb)
                have HX5 := Lib.hid hx
                clear hb hx
                go_wp2_with fail
                obtain ⟨W6, hW6⟩ : ∃ W6, w5.alloc (.cells #[.int .i64 (g : Int), .slice od c cd, .int .i64 (S.size : Int), .bool true] 46) = W6 := ⟨_, rfl⟩
                have hal := (Below.refl w5.heap.size w5).alloc (Nat.le_refl _) (.cells #[.int .i64 (g : Int), .slice od c cd, .int .i64 (S.size : Int), .bool true] 46)
                have hx6 := ownsRow_below HX5.out hal
                have hq6 := ownsRow_below HQ5.out hal
                have hb6 := bel_trans HB5.out hal
                rw [hW6] at hx6 hq6 hb6 ⊢
                obtain ⟨o', c', e', hst⟩ := strs_of_own hq6 (by omega) HQS.out
                cases e'
                have HST6 := Lib.hid hst
                have HX6 := Lib.hid hx6
                have HB6 := Lib.hid hb6
                clear hW6 hal hx6 hq6 hb6 hst
                refine (payloads_any c od cd X2 q _ _ (by omega) HC.out HX3.out HX6.out).mono ?_
                rintro r w7 ⟨v, rfl, ho, hb⟩
                obtain ⟨op, cp, rfl⟩ := row_shape ho
                have HO := Lib.hid ho
                have HB7 := Lib.hid hb
                clear ho hb
                go_wp2_with fail
                refine (texts_any c op _ cp _ q W6 w7 _ HO.out (Nat.le_refl _) HST6.out HB7.out).mono ?_
                rintro r w8 ⟨rfl, hb, _⟩
                have HB8 := Lib.hid (bel_trans HB6.out hb)
                clear hb
                go_wp2_with fail
                go_ret
                exact ⟨rfl, HB8.out⟩
          case pos =>
            obtain ⟨s, es⟩ : ∃ s, z.getD i ByteArray.empty = s := ⟨_, rfl⟩
            have hpk := pay_ok HOK.out i (by rw [HZ.out.1]; exact hil)
            have hsc := endT_succ z i (by rw [HZ.out.1]; exact hil)
            have hwi := HW.out i (by rw [HZ.out.1]; exact hil)
            have hle := endT_le z (i + 1)
            rw [HAS.out] at hle
            rw [es] at hpk hsc
            rcases HZ.out.2.2.2.2 with h0 | ⟨bz, off, rfl, hbz, hcz⟩
            · omega
            have cz := ((sbR_keep HS2.out HB3.out).1.cell (p := ⟨bz, off + i, none⟩) hbz).trans (hcz i hil)
            rw [es] at cz
            have HSZ := Lib.hid (fun W => size_is (s.size : Int) W (by omega))
            by_cases him : i < m
            case neg =>
              obtain rfl : i = m := by omega
              have hge := HEG.out
              rw [hge]
              have hd5 : decide ((G : Int) + (16 + (s.size : Int)) ≤ 16 + (K : Int)) = false := decide_eq_false (by omega)
              have e5 : IntKind.i64.wrap ((G : Int) + (16 + (s.size : Int))) = (G : Int) + (16 + (s.size : Int)) := IntWalk.i64_in _ (by omega)
              have hbw := HBW.out
              clear hpk hsc hwi hle hcz es him hge
              go_wp2_with fail
              refine (HSZ.out _).mono ?_
              rintro r w3 ⟨rfl, rfl⟩
              have hgx := (Array.getElem?_eq_some_iff.1 HBR.out.2).1
              have hal := (Below.refl wr.heap.size wr).alloc (Nat.le_refl _) (.cells #[] 9)
              have k1 : (wr.alloc (.cells #[] 9)).cell? ⟨gx, 1, none⟩ = some (.slice oc i cc) := (hal.cell (p := ⟨gx, 1, none⟩) hgx).trans c1
              have hzr := strs_keep HZ.out HBR.out.1
              obtain ⟨o1, hs1, q1⟩ := slice_strs hzr i hm
              obtain ⟨v1, w4, r1, n1, g1⟩ := append_strs (wr.alloc (.cells #[] 9)) wr.heap.size 23 _ 0 _ (own_empty_s wr) o1 i cap _ (strs_keep q1 hal) (by omega) (by simp)
              rw [Nat.zero_add, show stRow [] ++ stRow (z.take i) = stRow (z.take i) from rfl] at n1
              have hw4 : Below wr.heap.size wr w4 := hal.grown g1 (by simp) (fun k hk => ((own_empty_s wr).lt k hk).1)
              have k2 : w4.cell? ⟨gx, 2, none⟩ = some (.int .i64 (G : Int)) := (hw4.cell (p := ⟨gx, 2, none⟩) hgx).trans c2
              have R1 := Lib.hid r1
              have N1 := Lib.hid n1
              have HB4 := Lib.hid (bel_trans HBR.out.1 hw4)
              have HBZ := Lib.hid hw4.size
              have htl : (z.take i).length = i := by rw [List.length_take, HZ.out.1]; omega
              have HTL := Lib.hid htl
              have hst := sumZ_take_le z i
              have hs1' := HSM.out
              have HST := Lib.hid (show sumZ (z.take i) ≤ 20000 by omega)
              have hl3 : len2 ≤ 20000 := by have := sumZ_len z2; have := HSM2.out; have := HZ2.out.1; omega
              have hGA : G ≤ A.size := by omega
              have HGA := Lib.hid hGA
              clear hal hzr q1 r1 n1 g1 hw4 htl hst hs1'
              go_wp2_with (at_builtin; refine list_append_run rfl (.tmp 162) (.tmp 167) 23 rfl _ _ _ _ rfl rfl R1.out ?_)
              obtain ⟨B, eB⟩ : ∃ B, wr.heap.size = B := ⟨_, rfl⟩
              have HBB := Lib.hid (show w.heap.size ≤ B by rw [← eB]; exact HBR.out.1.size)
              rw [eB] at N1 HBZ
              obtain ⟨i0, hi0, hz0, hz1, hz2⟩ := info_parts infoS
              have HI := Lib.hid (⟨hi0, hz0, hz1, hz2⟩ : Tryz.prog.info? 9 = some i0 ∧ i0.zero = some (Value.string ⟨#[]⟩) ∧ i0.size = 1 ∧ i0.bytes = 16)
              clear hi0 hz0 hz1 hz2 R1 hs1 k1 k2 c0 c1 c2 c3 eB hbw
              go_loopw [17, 18, 19] (fun av sv iv wx => ∃ (j : Nat) (q : List ByteArray) (S : ByteArray), j ≤ len2 ∧ iv = .int .i64 j ∧ sv = .string S ∧ S.data.toList = hdrL g ++ joinF g (paysL q) ∧ okF g (paysL q) ∧ wx.ownsRow B 9 1 av q.length (stRow q) ∧ Below w.heap.size w wx ∧ q.length ≤ 20000 + j ∧ sumZ q ≤ 20000 + sumZ (z2.take j) ∧ B ≤ wx.heap.size) (fun _ _ iv _ => len2 - (intOf iv).toNat)
              case atStart => exact ⟨0, z.take i, A.extract 0 G, Nat.zero_le _, rfl, rfl, HCUT.out, HOK2.out, by rw [HTL.out]; exact N1.out, HB4.out, by rw [HTL.out]; omega, by have := HST.out; omega, HBZ.out⟩
              case round =>
                obtain ⟨j, q, S, hj, rfl, rfl, hS, hq, hq2, hbx, hql, hsq, hBx⟩ := hrel
                obtain ⟨oq, cq, rfl⟩ := row_shape hq2
                have HSD := Lib.hid hS
                have HQ := Lib.hid hq
                have HQ2 := Lib.hid hq2
                have HBX := Lib.hid hbx
                have HSQ := Lib.hid hsq
                have HBXS := Lib.hid hBx
                have hts := sumZ_take_le z2 j
                have hm2 := HSM2.out
                have hss := seg_size hS
                have hsm := size_sum q
                have hS1 : S.size ≤ 900000 := by omega
                clear hS hq hq2 hbx hsq hBx hts hss hsm hm2
                by_cases hjl : j < len2
                case pos =>
                  obtain ⟨s, es⟩ : ∃ s, z2.getD j ByteArray.empty = s := ⟨_, rfl⟩
                  rcases HZ2.out.2.2.2.2 with h0 | ⟨bz, off, rfl, hbz, hcz⟩
                  · omega
                  have cz := (HBX.out.cell (p := ⟨bz, off + j, none⟩) hbz).trans (hcz j hjl)
                  rw [es] at cz
                  have HT := Lib.hid (sumZ_take (by rw [HZ2.out.1]; exact hjl) es)
                  have hs2 : s.size ≤ 20000 := by have := sumZ_take_le z2 (j + 1); have := HSM2.out; have := HT.out; omega
                  have e7 : IntKind.i64.wrap ((g : Int) + (q.length : Int)) = (g : Int) + (q.length : Int) := IntWalk.i64_in _ (by omega)
                  have hmk := fun W => make_any ((g : Int) + (q.length : Int)) s W (by omega)
                  by_cases hE : mkE ((g : Int) + (q.length : Int)) s = 0
                  case neg =>
                    obtain ⟨E, hE1, hE2⟩ : ∃ E : Int, ((mkE ((g : Int) + (q.length : Int)) s : Nat) : Int) = E ∧ (E != 0) = true := ⟨_, rfl, by rw [bne_iff_ne]; omega⟩
                    rw [hE1] at hmk
                    generalize mkS ((g : Int) + (q.length : Int)) s = T at hmk
                    have HMK := Lib.hid hmk
                    clear hmk hE hE1 es hcz
                    go_wp2_with fail
                    refine (HMK.out _).mono ?_
                    rintro r w5 ⟨rfl, hb⟩
                    have HB5 := Lib.hid hb
                    clear hb
                    go_wp2_with fail
                    go_roundw
                    case rel => exact ⟨j + 1, q, S, by omega, by go_num, rfl, HSD.out, HQ.out, ownsRow_below HQ2.out HB5.out, bel_trans HBX.out HB5.out, by omega, by have := HT.out; have := HSQ.out; omega, Nat.le_trans HBXS.out HB5.out.size⟩
                    case measure => simp [intOf]; omega
                  case pos =>
                    obtain ⟨t1, t2, t3⟩ := seg_snoc HSD.out HQ.out hE
                    rw [hE] at hmk
                    obtain ⟨T, eT⟩ : ∃ T, mkS ((g : Int) + (q.length : Int)) s = T := ⟨_, rfl⟩
                    rw [eT] at hmk t1 t3
                    have HT1 := Lib.hid t1
                    have HT2 := Lib.hid t2
                    have HMK := Lib.hid (show ∀ W, Calls Tryz.prog 36 #[.int .i64 ((g : Int) + (q.length : Int)), .string s] W fun e w' => e = .returned (.tuple #[.string T, .int .i64 0]) ∧ Below W.heap.size W w' from hmk)
                    have z1 : ¬ 9223372036854775807 < S.size + T.size := by omega
                    have hrow : stRow q ++ [.string s] = stRow (q ++ [s]) := by unfold stRow; rw [List.map_append]; rfl
                    have HROW := Lib.hid hrow
                    clear hmk hE es hcz t1 t2 t3 eT hrow
                    go_wp2_with fail
                    refine (HMK.out _).mono ?_
                    rintro r w5 ⟨rfl, hb⟩
                    have cz5 := (hb.cell (p := ⟨bz, off + j, none⟩) (cell_lt cz)).trans cz
                    have HQ5 := Lib.hid (ownsRow_below HQ2.out hb)
                    have HB5 := Lib.hid (bel_trans HBX.out hb)
                    have HBS5 := Lib.hid (Nat.le_trans HBXS.out hb.size)
                    clear hb cz HQ2
                    go_wp2_with (at_builtin; refine wpList_append_own _ rfl _ _ 23 rfl B 9 i0 (.string ⟨#[]⟩) 1 16 Tryz.underlying23 HI.out.1 HI.out.2.1 HI.out.2.2.1 HI.out.2.2.2 rfl (by decide) _ _ _ rfl (HQ5.out.alloc _) ⟨w5.heap.size, 0, none⟩ 1 1 [.string s] rfl rfl (cell_one_new _ _ _) (by simp [Value.oneCell']) (by unfold maxLen; omega) (by omega) (by have := HBS5.out; simp; omega) ?_)
                    intro v' w7 hown hgrow _
                    rw [HROW.out] at hown
                    have hb7 : Below w.heap.size w w7 := (HB5.out.alloc HB5.out.size _).grown hgrow (by have := HB5.out.size; simp; omega) (fun k hk => by have := (HQ5.out.lt k hk).1; have := HBB.out; omega)
                    have HO7 := Lib.hid hown
                    have HB7 := Lib.hid hb7
                    have HBS7 := Lib.hid (show B ≤ w7.heap.size by have := hgrow.size; have := HBS5.out; simp at *; omega)
                    clear hown hgrow hb7
                    go_wp2_with fail
                    go_roundw
                    case rel => exact ⟨j + 1, q ++ [s], S ++ T, by omega, by go_num, rfl, HT1.out, HT2.out, by rw [List.length_append]; exact HO7.out, HB7.out, by rw [List.length_append, List.length_singleton]; omega, by have := HT.out; have := HSQ.out; rw [sumZ_snoc]; omega, HBS7.out⟩
                    case measure => simp [intOf]; omega
                case neg =>
                  obtain rfl : j = len2 := by omega
                  have hsz2 := seg_size HSD.out
                  have hsc := scanTo_of (s := S) (f := g) (ls := paysL q) (by rw [HSD.out]; exact seg_whole g (by omega) _ HQ.out) HQ.out (by omega)
                  rw [pays_len, ← hsz2, decide_eq_true rfl, bs_pays] at hsc
                  obtain ⟨X2, hX2, k⟩ := hsc
                  have K3 := Lib.hid k
                  have HX3 := Lib.hid hX2
                  have hqs : ∀ p ∈ q, p.size ≤ 1000000 := fun p hp => by have := sumZ_mem hp; have := HSQ.out; have := sumZ_take_le z2 j; have := HSM2.out; omega
                  have HQS := Lib.hid hqs
                  have hql2 : q.length ≤ 40000 := by omega
                  obtain ⟨c, hc⟩ : ∃ c, q.length = c := ⟨_, rfl⟩
                  rw [hc] at HQ2 K3 HX3 hql2 ⊢
                  have HC := Lib.hid hc
                  clear k hX2 hsz2 hqs hc hql
                  go_wp2_with fail
                  refine (K3.out _).mono ?_
                  rintro r w5 ⟨od, cd, rfl, hx, hb⟩
                  have HB5 := Lib.hid (bel_trans HBX.out hb)
                  have HQ5 := Lib.hid (ownsRow_below HQ2.out hb)
                  have HX5 := Lib.hid hx
                  clear hb hx
                  go_wp2_with fail
                  obtain ⟨W6, hW6⟩ : ∃ W6, w5.alloc (.cells #[.int .i64 (g : Int), .slice od c cd, .int .i64 (S.size : Int), .bool true] 46) = W6 := ⟨_, rfl⟩
                  have hal := (Below.refl w5.heap.size w5).alloc (Nat.le_refl _) (.cells #[.int .i64 (g : Int), .slice od c cd, .int .i64 (S.size : Int), .bool true] 46)
                  have hx6 := ownsRow_below HX5.out hal
                  have hq6 := ownsRow_below HQ5.out hal
                  have hb6 := bel_trans HB5.out hal
                  rw [hW6] at hx6 hq6 hb6 ⊢
                  obtain ⟨o', c', e', hst⟩ := strs_of_own hq6 (by omega) HQS.out
                  cases e'
                  have HST6 := Lib.hid hst
                  have HX6 := Lib.hid hx6
                  have HB6 := Lib.hid hb6
                  clear hW6 hal hx6 hq6 hb6 hst
                  refine (payloads_any c od cd X2 q _ _ (by omega) HC.out HX3.out HX6.out).mono ?_
                  rintro r w7 ⟨v, rfl, ho, hb⟩
                  obtain ⟨op, cp, rfl⟩ := row_shape ho
                  have HO := Lib.hid ho
                  have HB7 := Lib.hid hb
                  clear ho hb
                  go_wp2_with fail
                  refine (texts_any c op _ cp _ q W6 w7 _ HO.out (Nat.le_refl _) HST6.out HB7.out).mono ?_
                  rintro r w8 ⟨rfl, hb, _⟩
                  have HB8 := Lib.hid (bel_trans HB6.out hb)
                  clear hb
                  go_wp2_with fail
                  go_ret
                  exact ⟨rfl, HB8.out⟩
            case pos =>
              obtain ⟨P, eP⟩ : ∃ P, endT z i = P := ⟨_, rfl⟩
              obtain ⟨Q, eQ⟩ : ∃ Q, endT z (i + 1) = Q := ⟨_, rfl⟩
              have hx3 := HX.out i him
              rw [eP] at hsc hx3 ⊢
              rw [eQ] at hsc hwi hle
              obtain ⟨gr, rfl, hgr, hrc⟩ := rrow_cells HX2.out (by omega)
              have p0 := (HB3.out.cell (p := ⟨gr, i * 3, none⟩) hgr).trans (hrc _ _ hx3.1)
              have p1 := (HB3.out.cell (p := ⟨gr, i * 3 + 1, none⟩) hgr).trans (hrc _ _ hx3.2.1)
              have p2 := (HB3.out.cell (p := ⟨gr, i * 3 + 2, none⟩) hgr).trans (hrc _ _ hx3.2.2)
              rw [es] at p1
              have hd5 : decide ((P : Int) + (16 + (s.size : Int)) ≤ 16 + (K : Int)) = true := decide_eq_true (by have := hwi.2 him; omega)
              have e5 : IntKind.i64.wrap ((P : Int) + (16 + (s.size : Int))) = (P : Int) + (16 + (s.size : Int)) := IntWalk.i64_in _ (by omega)
              have e6 : IntKind.i64.wrap ((g : Int) + (i : Int)) = (g : Int) + (i : Int) := IntWalk.i64_in _ (by omega)
              have hd6 : decide ((i : Int) < (m : Int)) = true := decide_eq_true (by omega)
              have HQ := Lib.hid (show Q = P + (16 + s.size) from hsc)
              have HEQ := Lib.hid eQ
              clear hpk hsc hwi hle hcz es hx3 hrc eP eQ
              go_wp2_with fail
              refine (HSZ.out _).mono ?_
              rintro r w3 ⟨rfl, rfl⟩
              go_wp2_with fail
              go_quiet (fail)
              go_wp2_with fail
              refine (HSZ.out _).mono ?_
              rintro r w3 ⟨rfl, rfl⟩
              go_wp2_with fail
              go_roundw
              case rel => exact ⟨i + 1, by omega, by rw [HEQ.out, HQ.out]; go_num, by go_num, below_drewN HB3.out _⟩
              case measure => simp [intOf]; omega
end Go.Proofs.YtaonjbkkgeiniaaGreatDoor
