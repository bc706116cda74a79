/- souklaw11.SegSplit: its walk. (Printed by wip/gen_ssplit.py.) -/
import Derived.Test.YtaonjbkkgeiniaaGreatDoorSgSl
namespace Go.Proofs.YtaonjbkkgeiniaaGreatDoor
open Go.RowKit

set_option maxRecDepth 100000 in
set_option maxHeartbeats 32000000 in
theorem ssplit_any (f : Int) (oa : Option Addr) (len cap : Nat) (z : List ByteArray) (most : Int) (w : World) (hz : StrsIn w oa len cap z) (hmo : -9223372036854775808 ≤ most ∧ most ≤ 9223372036854775807) (h : Laid w) :
    Calls Tryz.prog 9 #[.int .i64 f, .slice oa len cap, .int .i64 most] w fun r w' => r = .returned (.bool true) ∧ Below w.heap.size w w' := by
  have HL := Lib.hid h
  have HZ := Lib.hid hz
  clear h hz
  have hsp := fun W (hW : StrsIn W oa len cap z) => split_any f most z W hW hmo
  unfold spPost at hsp
  go_enter Tryz.func9, Tryz.ntmps9
  go_wp2_with fail
  refine (many_any _ _ _ z _ HZ.out).mono ?_
  rintro r w0 ⟨b, rfl, rfl, hsum⟩
  cases b with
  | true =>
    clear hsum hsp
    go_wp2_with fail
    refine (awake_any _ HL.out).mono ?_
    rintro r w9 ⟨rfl, hb9⟩
    have HB9 := Lib.hid hb9
    clear hb9
    go_wp2_with fail
    go_ret
    exact ⟨rfl, HB9.out⟩
  | false =>
    have HSM := Lib.hid (hsum rfl)
    clear hsum
    have HSP := Lib.hid hsp
    clear hsp
    go_wp2_with fail
    refine (awake_any _ HL.out).mono ?_
    rintro r w9 ⟨rfl, hb9⟩
    have HB9 := Lib.hid hb9
    clear hb9
    by_cases hE : spE f z most = 0
    case neg =>
      obtain ⟨E, hE1, hE2⟩ : ∃ E : Int, ((spE f z most : Nat) : Int) = E ∧ (E != 0) = true := ⟨_, rfl, by rw [bne_iff_ne]; omega⟩
      have eo : spO f z most = [] := by unfold spO; rw [if_neg hE]
      have hsp := HSP.out
      rw [eo, hE1] at hsp
      have HK := Lib.hid (show ∀ W, StrsIn W oa len cap z → Calls Tryz.prog 17 #[.int .i64 f, .slice oa len cap, .int .i64 most] W fun e w' => ∃ o' c', e = .returned (.tuple #[.slice o' 0 c', .int .i64 E]) ∧ w'.ownsRow W.heap.size 9 1 (.slice o' 0 c') 0 (stRow []) ∧ Below W.heap.size W w' from hsp)
      clear hsp hE hE1 eo HSP
      go_wp2_with fail
      refine (HK.out _ (strs_keep HZ.out HB9.out)).mono ?_
      rintro r w1 ⟨o', c', rfl, _, hb⟩
      have HB1 := Lib.hid (bel_trans HB9.out hb)
      clear hb
      go_wp2_with fail
      go_ret
      exact ⟨rfl, HB1.out⟩
    case pos =>
      obtain ⟨g, gs, out, rfl, hgz, hm, hO, hol, hn0, hall, hseg, hfit⟩ := split_tells f most z hE HSM.out
      have hsp := HSP.out
      rw [hO, hE, hol] at hsp
      have hn1 : gs.length ≤ 20001 := by
        have e := hol
        rw [← hO] at e
        unfold spO spB at e
        rw [if_pos hE, List.length_map] at e
        have h1 := (spL_len most.toNat (g : Int).toNat (paysL z)).2
        rw [pays_len] at h1
        have h2 := sumZ_len z
        have h3 := HSM.out
        omega
      have hzl := sumZ_len z
      have hsm := HSM.out
      obtain ⟨n, hn⟩ : ∃ n, gs.length = n := ⟨_, rfl⟩
      rw [hn] at hsp hol hn0 hall hseg hfit hn1
      have HK := Lib.hid (show ∀ W, StrsIn W oa len cap z → Calls Tryz.prog 17 #[.int .i64 (g : Int), .slice oa len cap, .int .i64 most] W fun e w' => ∃ o' c', e = .returned (.tuple #[.slice o' n c', .int .i64 0]) ∧ w'.ownsRow W.heap.size 9 1 (.slice o' n c') n (stRow out) ∧ Below W.heap.size W w' from hsp)
      have HSEG := Lib.hid hseg
      have HFIT := Lib.hid hfit
      have HALL := Lib.hid hall
      have HN := Lib.hid hn
      have HOL := Lib.hid hol
      have HZN := Lib.hid (show z.length = len from HZ.out.1)
      have hlen : len ≤ 20000 := by have := HZ.out.1; omega
      have hgl : g + len ≤ 1048576 := by have := HZ.out.1; omega
      clear hsp hE HSP hO hol hall hseg hfit hn hzl hsm hgz
      go_wp2_with fail
      refine (HK.out _ (strs_keep HZ.out HB9.out)).mono ?_
      rintro r w1 ⟨oo, co, rfl, ho, hb⟩
      obtain ⟨o', c', e', hst⟩ := strs_of_own ho (by omega) (fun s hs => by
        obtain ⟨i, hi, rfl⟩ := List.getElem_of_mem hs
        have := (HSEG.out i (by rw [← HOL.out]; exact hi)).2.1
        rw [List.getD_eq_getElem?_getD, List.getElem?_eq_getElem hi] at this
        have e : (some out[i]).getD ByteArray.empty = out[i] := rfl
        rw [e] at this
        omega)
      cases e'
      have HO := Lib.hid hst
      have HB1 := Lib.hid (bel_trans HB9.out hb)
      clear ho hb hst HK
      have hn0' : ((n : Int) == 0) = false := by rw [beq_eq_false_iff_ne]; omega
      go_wp2_with fail
      obtain ⟨i0, hi0, hz0, hz1, hz2⟩ := info_parts infoS
      have HI := Lib.hid (⟨hi0, hz0, hz1, hz2⟩ : Tryz.prog.info? 9 = some i0 ∧ i0.zero = some (Value.string ⟨#[]⟩) ∧ i0.size = 1 ∧ i0.bytes = 16)
      clear hi0 hz0 hz1 hz2 hn0'
      go_loopw [9, 10, 11] (fun av nv iv wr => ∃ i : Nat, i ≤ n ∧ iv = .int .i64 i ∧ nv = .int .i64 ((g : Int) + (allB gs i).length) ∧ wr.ownsRow w1.heap.size 9 1 av (allB gs i).length (stRow (allB gs i)) ∧ Below w1.heap.size w1 wr) (fun _ _ iv _ => n - (intOf iv).toNat)
      case atStart => exact ⟨0, Nat.zero_le _, rfl, by show Value.int .i64 (g : Int) = _; simp [allB], World.ownsRow_nil _ _ _ _, Below.refl _ _⟩
      case round =>
        obtain ⟨i, hi, rfl, rfl, hall', hb⟩ := hrel
        have HA := Lib.hid hall'
        have HB2 := Lib.hid hb
        clear hall' hb
        by_cases hin : i < n
        case neg =>
          obtain rfl : i = n := by omega
          have ha := HA.out
          rw [HALL.out, HZN.out] at ha
          rw [HALL.out, HZN.out]
          obtain ⟨op, cp, rfl⟩ := row_shape ha
          have HA2 := Lib.hid ha
          have e9 : IntKind.i64.wrap ((g : Int) + (len : Int)) = (g : Int) + (len : Int) := IntWalk.i64_in _ (by omega)
          clear ha
          go_wp2_with fail
          refine (texts_any len op oa cp cap z w _ _ HA2.out HB1.out.size HZ.out (bel_trans HB1.out HB2.out)).mono ?_
          rintro r w8 ⟨rfl, hb, _⟩
          have HB8 := Lib.hid hb
          clear hb
          go_wp2_with fail
          go_ret
          exact ⟨rfl, HB8.out⟩
        case pos =>
          obtain ⟨hs1, hs2, hs3⟩ := HSEG.out i hin
          obtain ⟨S, eS⟩ : ∃ S, out.getD i ByteArray.empty = S := ⟨_, rfl⟩
          rw [eS] at hs1 hs2 hs3
          obtain ⟨X, hX, k⟩ := hs1
          have hsucc := allB_succ gs i (by rw [HN.out]; exact hin)
          have hle := allB_le gs (i + 1)
          rw [HN.out, HALL.out, HZN.out, hsucc, List.length_append] at hle
          have hzs : (gB gs i).length = (gB gs i).length := rfl
          rcases HO.out.2.2.2.2 with h0 | ⟨b, off, rfl, hbl, hcl⟩
          · omega
          have cz := (HB2.out.cell (p := ⟨b, off + i, none⟩) hbl).trans (hcl i hin)
          rw [eS] at cz
          have hwz : i = 0 ∨ 0 < i := by omega
          obtain ⟨c, hc⟩ : ∃ c, (gB gs i).length = c := ⟨_, rfl⟩
          obtain ⟨d, hd⟩ : ∃ d, (allB gs i).length = d := ⟨_, rfl⟩
          rw [hc, hd] at hle
          rw [hc] at hX hs3
          rw [hc, hd] at k
          have ha := HA.out
          rw [hd] at ha ⊢
          obtain ⟨op, cp, rfl⟩ := row_shape ha
          have K3 := Lib.hid k
          have HXX := Lib.hid hX
          have HHA := Lib.hid ha
          have HC := Lib.hid hc
          have HD := Lib.hid hd
          have HSUCC := Lib.hid hsucc
          clear k hX ha hc hd hsucc HA hzs eS
          rcases hwz with hz0 | hz0
          all_goals rcases Decidable.em (most < (S.size : Int)) with hbig | hbig
          ·
            have hz1 : decide ((0 : Int) < (i : Int)) = false := decide_eq_false (by omega)
            have hz2 : decide (0 < i) = false := decide_eq_false (by omega)
            have hz3 : ¬ (0 < i) := by omega
            clear hz0
            have hb1 : decide (most < (S.size : Int)) = true := decide_eq_true hbig
            have hc1 : ((c : Int) != 1) = false := by rw [hs3 hbig]; rfl
            clear hs3 hbig hcl
            go_wp2_with fail
            refine (K3.out _).mono ?_
            rintro r w2 ⟨oc, cc, rfl, hx, hb⟩
            have hal := (Below.refl w2.heap.size w2).alloc (Nat.le_refl _) (.cells #[.int .i64 ((g : Int) + (d : Int)), .slice oc c cc, .int .i64 (S.size : Int), .bool true] 46)
            have hbw := bel_trans hb hal
            have cz2 := (hbw.cell (p := ⟨b, off + i, none⟩) (cell_lt cz)).trans cz
            have HBW := Lib.hid hbw
            have HA2 := Lib.hid (ownsRow_below HHA.out hbw)
            have HX2 := Lib.hid (ownsRow_below hx hal)
            have HB3 := Lib.hid (bel_trans HB2.out hb)
            have HGX := Lib.hid (heap_alloc_new w2 (.cells #[.int .i64 ((g : Int) + (d : Int)), .slice oc c cc, .int .i64 (S.size : Int), .bool true] 46))
            have HLT := Lib.hid (show ∀ q, Value.ownBlock (.slice op d cp) = some q → q < w2.heap.size from fun q hq => Nat.lt_of_lt_of_le (HHA.out.lt q hq).2 hb.size)
            clear hx hb hal hbw
            go_wp2_with fail
            obtain ⟨W2, hW2⟩ : ∃ W2, w2.alloc (.cells #[.int .i64 ((g : Int) + (d : Int)), .slice oc c cc, .int .i64 (S.size : Int), .bool true] 46) = W2 := ⟨_, rfl⟩
            rw [hW2] at cz2 HBW HA2 HX2 HGX ⊢
            have HB4 := Lib.hid (show Below w1.heap.size w1 W2 from HB2.out.trans (HBW.out.mono HB2.out.size))
            clear hW2 HB3
            have hgx := (Array.getElem?_eq_some_iff.1 HGX.out).1
            generalize w2.heap.size = gx at *
            have c0 : W2.cell? ⟨gx, 0, none⟩ = some (.int .i64 ((g : Int) + (d : Int))) := by rw [cell_of_row _ _ _ _ _ _ HGX.out]; rfl
            have c1 : W2.cell? ⟨gx, 1, none⟩ = some (.slice oc c cc) := by rw [cell_of_row _ _ _ _ _ _ HGX.out]; rfl
            go_quiet (fail)
            go_wp2_with fail
            refine (payloads_any c _ cc X (gB gs i) _ _ (by omega) HC.out HXX.out (ownsRow_below HX2.out (below_drewN (Below.refl _ _) _))).mono ?_
            rintro r w3 ⟨v, rfl, ho, hb⟩
            obtain ⟨oq, cq, rfl⟩ := row_shape ho
            have hb3 : Below W2.heap.size W2 w3 := bel_trans (below_drewN (Below.refl W2.heap.size W2) _) hb
            obtain ⟨o', c', e', hst⟩ := strs_of_own ho (by omega) (fun q hq => by have h1 := gB_mem gs _ (by rw [HN.out]; exact hin) q hq; rw [HN.out, HALL.out] at h1; have := sumZ_mem h1; have := HSM.out; omega)
            cases e'
            have haw := ownsRow_below HA2.out hb3
            have hb4 : Below w1.heap.size w1 w3 := HB4.out.trans (hb3.mono HB4.out.size)
            obtain ⟨v2, w4, r2, n2, g2⟩ := append_strs w3 w1.heap.size 23 _ d _ haw _ c cq _ hst (by omega) hb4.size
            have hb5 : Below w1.heap.size w1 w4 := hb4.grown g2 hb4.size (fun k hk => (haw.lt k hk).1)
            have hgw : w4.heap[gx]? = _ := (g2.block gx (Nat.lt_of_lt_of_le hgx hb3.size) (fun e => Nat.lt_irrefl _ (HLT.out gx e.symm))).trans ((hb3.block gx hgx).trans HGX.out)
            have d0 : w4.cell? ⟨gx, 0, none⟩ = some (.int .i64 ((g : Int) + (d : Int))) := by rw [cell_of_row _ _ _ _ _ _ hgw]; rfl
            have d1 : w4.cell? ⟨gx, 1, none⟩ = some (.slice oc c cc) := by rw [cell_of_row _ _ _ _ _ _ hgw]; rfl
            have d2 : w4.cell? ⟨gx, 2, none⟩ = some (.int .i64 (S.size : Int)) := by rw [cell_of_row _ _ _ _ _ _ hgw]; rfl
            have d3 : w4.cell? ⟨gx, 3, none⟩ = some (.bool true) := by rw [cell_of_row _ _ _ _ _ _ hgw]; rfl
            have R2 := Lib.hid r2
            have N2 := Lib.hid n2
            have HB5 := Lib.hid hb5
            clear ho hb hb3 hst haw hb4 r2 n2 g2 hb5 hgw c0 c1 cz2
            go_wp2_with (at_builtin; refine list_append_run rfl (.tmp 107) (.tmp 110) 23 rfl _ _ _ _ rfl rfl R2.out ?_)
            refine (next_is ((g : Int) + (d : Int)) _ c cc _ true _ (by omega) (by omega)).mono ?_
            rintro r w5 ⟨rfl, hb⟩
            have N5 := Lib.hid (ownsRow_below N2.out hb)
            have HB6 := Lib.hid (HB5.out.trans (hb.mono HB5.out.size))
            clear hb d0 d1 d2 d3 N2 HB5 R2
            go_wp2_with fail
            go_roundw
            case rel =>
              have hsl : (allB gs (i + 1)).length = d + c := by rw [HSUCC.out, List.length_append, HD.out, HC.out]
              have hsr : stRow (allB gs (i + 1)) = stRow (allB gs i) ++ stRow (gB gs i) := by rw [HSUCC.out]; unfold stRow; rw [List.map_append]
              exact ⟨i + 1, by omega, by go_num, by rw [hsl]; go_num, by rw [hsl, hsr]; exact N5.out, HB6.out⟩
            case measure => simp [intOf]; omega
          ·
            have hz1 : decide ((0 : Int) < (i : Int)) = false := decide_eq_false (by omega)
            have hz2 : decide (0 < i) = false := decide_eq_false (by omega)
            have hz3 : ¬ (0 < i) := by omega
            clear hz0
            have hb1 : decide (most < (S.size : Int)) = false := decide_eq_false hbig
            clear hs3 hbig hcl
            go_wp2_with fail
            refine (K3.out _).mono ?_
            rintro r w2 ⟨oc, cc, rfl, hx, hb⟩
            have hal := (Below.refl w2.heap.size w2).alloc (Nat.le_refl _) (.cells #[.int .i64 ((g : Int) + (d : Int)), .slice oc c cc, .int .i64 (S.size : Int), .bool true] 46)
            have hbw := bel_trans hb hal
            have cz2 := (hbw.cell (p := ⟨b, off + i, none⟩) (cell_lt cz)).trans cz
            have HBW := Lib.hid hbw
            have HA2 := Lib.hid (ownsRow_below HHA.out hbw)
            have HX2 := Lib.hid (ownsRow_below hx hal)
            have HB3 := Lib.hid (bel_trans HB2.out hb)
            have HGX := Lib.hid (heap_alloc_new w2 (.cells #[.int .i64 ((g : Int) + (d : Int)), .slice oc c cc, .int .i64 (S.size : Int), .bool true] 46))
            have HLT := Lib.hid (show ∀ q, Value.ownBlock (.slice op d cp) = some q → q < w2.heap.size from fun q hq => Nat.lt_of_lt_of_le (HHA.out.lt q hq).2 hb.size)
            clear hx hb hal hbw
            go_wp2_with fail
            obtain ⟨W2, hW2⟩ : ∃ W2, w2.alloc (.cells #[.int .i64 ((g : Int) + (d : Int)), .slice oc c cc, .int .i64 (S.size : Int), .bool true] 46) = W2 := ⟨_, rfl⟩
            rw [hW2] at cz2 HBW HA2 HX2 HGX ⊢
            have HB4 := Lib.hid (show Below w1.heap.size w1 W2 from HB2.out.trans (HBW.out.mono HB2.out.size))
            clear hW2 HB3
            have hgx := (Array.getElem?_eq_some_iff.1 HGX.out).1
            generalize w2.heap.size = gx at *
            have c0 : W2.cell? ⟨gx, 0, none⟩ = some (.int .i64 ((g : Int) + (d : Int))) := by rw [cell_of_row _ _ _ _ _ _ HGX.out]; rfl
            have c1 : W2.cell? ⟨gx, 1, none⟩ = some (.slice oc c cc) := by rw [cell_of_row _ _ _ _ _ _ HGX.out]; rfl
            go_quiet (fail)
            go_wp2_with fail
            refine (payloads_any c _ cc X (gB gs i) _ _ (by omega) HC.out HXX.out (ownsRow_below HX2.out (below_drewN (Below.refl _ _) _))).mono ?_
            rintro r w3 ⟨v, rfl, ho, hb⟩
            obtain ⟨oq, cq, rfl⟩ := row_shape ho
            have hb3 : Below W2.heap.size W2 w3 := bel_trans (below_drewN (Below.refl W2.heap.size W2) _) hb
            obtain ⟨o', c', e', hst⟩ := strs_of_own ho (by omega) (fun q hq => by have h1 := gB_mem gs _ (by rw [HN.out]; exact hin) q hq; rw [HN.out, HALL.out] at h1; have := sumZ_mem h1; have := HSM.out; omega)
            cases e'
            have haw := ownsRow_below HA2.out hb3
            have hb4 : Below w1.heap.size w1 w3 := HB4.out.trans (hb3.mono HB4.out.size)
            obtain ⟨v2, w4, r2, n2, g2⟩ := append_strs w3 w1.heap.size 23 _ d _ haw _ c cq _ hst (by omega) hb4.size
            have hb5 : Below w1.heap.size w1 w4 := hb4.grown g2 hb4.size (fun k hk => (haw.lt k hk).1)
            have hgw : w4.heap[gx]? = _ := (g2.block gx (Nat.lt_of_lt_of_le hgx hb3.size) (fun e => Nat.lt_irrefl _ (HLT.out gx e.symm))).trans ((hb3.block gx hgx).trans HGX.out)
            have d0 : w4.cell? ⟨gx, 0, none⟩ = some (.int .i64 ((g : Int) + (d : Int))) := by rw [cell_of_row _ _ _ _ _ _ hgw]; rfl
            have d1 : w4.cell? ⟨gx, 1, none⟩ = some (.slice oc c cc) := by rw [cell_of_row _ _ _ _ _ _ hgw]; rfl
            have d2 : w4.cell? ⟨gx, 2, none⟩ = some (.int .i64 (S.size : Int)) := by rw [cell_of_row _ _ _ _ _ _ hgw]; rfl
            have d3 : w4.cell? ⟨gx, 3, none⟩ = some (.bool true) := by rw [cell_of_row _ _ _ _ _ _ hgw]; rfl
            have R2 := Lib.hid r2
            have N2 := Lib.hid n2
            have HB5 := Lib.hid hb5
            clear ho hb hb3 hst haw hb4 r2 n2 g2 hb5 hgw c0 c1 cz2
            go_wp2_with (at_builtin; refine list_append_run rfl (.tmp 107) (.tmp 110) 23 rfl _ _ _ _ rfl rfl R2.out ?_)
            refine (next_is ((g : Int) + (d : Int)) _ c cc _ true _ (by omega) (by omega)).mono ?_
            rintro r w5 ⟨rfl, hb⟩
            have N5 := Lib.hid (ownsRow_below N2.out hb)
            have HB6 := Lib.hid (HB5.out.trans (hb.mono HB5.out.size))
            clear hb d0 d1 d2 d3 N2 HB5 R2
            go_wp2_with fail
            go_roundw
            case rel =>
              have hsl : (allB gs (i + 1)).length = d + c := by rw [HSUCC.out, List.length_append, HD.out, HC.out]
              have hsr : stRow (allB gs (i + 1)) = stRow (allB gs i) ++ stRow (gB gs i) := by rw [HSUCC.out]; unfold stRow; rw [List.map_append]
              exact ⟨i + 1, by omega, by go_num, by rw [hsl]; go_num, by rw [hsl, hsr]; exact N5.out, HB6.out⟩
            case measure => simp [intOf]; omega
          ·
            have hz1 : decide ((0 : Int) < (i : Int)) = true := decide_eq_true (by omega)
            have hz2 : decide (0 < i) = true := decide_eq_true (by omega)
            obtain ⟨k', hk'⟩ : ∃ k', i = k' + 1 := ⟨i - 1, by omega⟩
            have hfz := HFIT.out k' (by omega)
            rw [← hk'] at hfz
            obtain ⟨p, rr, hpr, hft⟩ := hfz
            have hcl1 : 0 < c := by rw [← HC.out, hpr]; simp
            have hc0 : ((c : Int) == 0) = false := by rw [beq_eq_false_iff_ne]; omega
            obtain ⟨S', eS'⟩ : ∃ S', out.getD k' ByteArray.empty = S' := ⟨_, rfl⟩
            rw [eS'] at hft
            have HF := Lib.hid (fun W => fits_is (S'.size : Int) (p.size : Int) most W (by have := (HSEG.out k' (by omega)).2.1; rw [eS'] at this; omega) hmo hft)
            have hX0 := HXX.out 0 hcl1
            rw [hpr] at hX0
            have HX0 := Lib.hid (show X[1]? = some (.string p) from hX0)
            have hck := hcl k' (by omega)
            rw [eS'] at hck
            have HCK := Lib.hid hck
            have HCL1 := Lib.hid hcl1
            have ek : IntKind.i64.wrap (k' : Int) = (k' : Int) := IntWalk.i64_in _ (by omega)
            have hkn : k' < n := by omega
            have ek2 : (i : Int) - 1 = (k' : Int) := by omega
            clear hpr hft eS' hX0 hck hcl1 hk'
            have hb1 : decide (most < (S.size : Int)) = true := decide_eq_true hbig
            have hc1 : ((c : Int) != 1) = false := by rw [hs3 hbig]; rfl
            clear hs3 hbig hcl
            go_wp2_with fail
            refine (K3.out _).mono ?_
            rintro r w2 ⟨oc, cc, rfl, hx, hb⟩
            have hal := (Below.refl w2.heap.size w2).alloc (Nat.le_refl _) (.cells #[.int .i64 ((g : Int) + (d : Int)), .slice oc c cc, .int .i64 (S.size : Int), .bool true] 46)
            have hbw := bel_trans hb hal
            have cz2 := (hbw.cell (p := ⟨b, off + i, none⟩) (cell_lt cz)).trans cz
            have HBW := Lib.hid hbw
            have HA2 := Lib.hid (ownsRow_below HHA.out hbw)
            have HX2 := Lib.hid (ownsRow_below hx hal)
            have HB3 := Lib.hid (bel_trans HB2.out hb)
            have HGX := Lib.hid (heap_alloc_new w2 (.cells #[.int .i64 ((g : Int) + (d : Int)), .slice oc c cc, .int .i64 (S.size : Int), .bool true] 46))
            have HLT := Lib.hid (show ∀ q, Value.ownBlock (.slice op d cp) = some q → q < w2.heap.size from fun q hq => Nat.lt_of_lt_of_le (HHA.out.lt q hq).2 hb.size)
            clear hx hb hal hbw
            go_wp2_with fail
            obtain ⟨W2, hW2⟩ : ∃ W2, w2.alloc (.cells #[.int .i64 ((g : Int) + (d : Int)), .slice oc c cc, .int .i64 (S.size : Int), .bool true] 46) = W2 := ⟨_, rfl⟩
            rw [hW2] at cz2 HBW HA2 HX2 HGX ⊢
            have HB4 := Lib.hid (show Below w1.heap.size w1 W2 from HB2.out.trans (HBW.out.mono HB2.out.size))
            clear hW2 HB3
            have hgx := (Array.getElem?_eq_some_iff.1 HGX.out).1
            generalize w2.heap.size = gx at *
            have c0 : W2.cell? ⟨gx, 0, none⟩ = some (.int .i64 ((g : Int) + (d : Int))) := by rw [cell_of_row _ _ _ _ _ _ HGX.out]; rfl
            have c1 : W2.cell? ⟨gx, 1, none⟩ = some (.slice oc c cc) := by rw [cell_of_row _ _ _ _ _ _ HGX.out]; rfl
            obtain ⟨gr, rfl, hgr, hrc⟩ := rrow_cells HX2.out HCL1.out
            have p1 := hrc _ _ HX0.out
            have ck := (HB4.out.cell (p := ⟨b, off + k', none⟩) hbl).trans HCK.out
            clear hrc
            have hcp := HCL1.out
            go_quiet ((go_at_call 20; exact Calls.quiet_of_same (HF.out _)))
            go_wp2_with fail
            refine (payloads_any c _ cc X (gB gs i) _ _ (by omega) HC.out HXX.out (ownsRow_below HX2.out (below_drewN (Below.refl _ _) _))).mono ?_
            rintro r w3 ⟨v, rfl, ho, hb⟩
            obtain ⟨oq, cq, rfl⟩ := row_shape ho
            have hb3 : Below W2.heap.size W2 w3 := bel_trans (below_drewN (Below.refl W2.heap.size W2) _) hb
            obtain ⟨o', c', e', hst⟩ := strs_of_own ho (by omega) (fun q hq => by have h1 := gB_mem gs _ (by rw [HN.out]; exact hin) q hq; rw [HN.out, HALL.out] at h1; have := sumZ_mem h1; have := HSM.out; omega)
            cases e'
            have haw := ownsRow_below HA2.out hb3
            have hb4 : Below w1.heap.size w1 w3 := HB4.out.trans (hb3.mono HB4.out.size)
            obtain ⟨v2, w4, r2, n2, g2⟩ := append_strs w3 w1.heap.size 23 _ d _ haw _ c cq _ hst (by omega) hb4.size
            have hb5 : Below w1.heap.size w1 w4 := hb4.grown g2 hb4.size (fun k hk => (haw.lt k hk).1)
            have hgw : w4.heap[gx]? = _ := (g2.block gx (Nat.lt_of_lt_of_le hgx hb3.size) (fun e => Nat.lt_irrefl _ (HLT.out gx e.symm))).trans ((hb3.block gx hgx).trans HGX.out)
            have d0 : w4.cell? ⟨gx, 0, none⟩ = some (.int .i64 ((g : Int) + (d : Int))) := by rw [cell_of_row _ _ _ _ _ _ hgw]; rfl
            have d1 : w4.cell? ⟨gx, 1, none⟩ = some (.slice (some ⟨gr, 0, none⟩) c cc) := by rw [cell_of_row _ _ _ _ _ _ hgw]; rfl
            have d2 : w4.cell? ⟨gx, 2, none⟩ = some (.int .i64 (S.size : Int)) := by rw [cell_of_row _ _ _ _ _ _ hgw]; rfl
            have d3 : w4.cell? ⟨gx, 3, none⟩ = some (.bool true) := by rw [cell_of_row _ _ _ _ _ _ hgw]; rfl
            have R2 := Lib.hid r2
            have N2 := Lib.hid n2
            have HB5 := Lib.hid hb5
            clear ho hb hb3 hst haw hb4 r2 n2 g2 hb5 hgw c0 c1 cz2
            go_wp2_with (at_builtin; refine list_append_run rfl (.tmp 107) (.tmp 110) 23 rfl _ _ _ _ rfl rfl R2.out ?_)
            refine (next_is ((g : Int) + (d : Int)) _ c cc _ true _ (by omega) (by omega)).mono ?_
            rintro r w5 ⟨rfl, hb⟩
            have N5 := Lib.hid (ownsRow_below N2.out hb)
            have HB6 := Lib.hid (HB5.out.trans (hb.mono HB5.out.size))
            clear hb d0 d1 d2 d3 N2 HB5 R2
            go_wp2_with fail
            go_roundw
            case rel =>
              have hsl : (allB gs (i + 1)).length = d + c := by rw [HSUCC.out, List.length_append, HD.out, HC.out]
              have hsr : stRow (allB gs (i + 1)) = stRow (allB gs i) ++ stRow (gB gs i) := by rw [HSUCC.out]; unfold stRow; rw [List.map_append]
              exact ⟨i + 1, by omega, by go_num, by rw [hsl]; go_num, by rw [hsl, hsr]; exact N5.out, HB6.out⟩
            case measure => simp [intOf]; omega
          ·
            have hz1 : decide ((0 : Int) < (i : Int)) = true := decide_eq_true (by omega)
            have hz2 : decide (0 < i) = true := decide_eq_true (by omega)
            obtain ⟨k', hk'⟩ : ∃ k', i = k' + 1 := ⟨i - 1, by omega⟩
            have hfz := HFIT.out k' (by omega)
            rw [← hk'] at hfz
            obtain ⟨p, rr, hpr, hft⟩ := hfz
            have hcl1 : 0 < c := by rw [← HC.out, hpr]; simp
            have hc0 : ((c : Int) == 0) = false := by rw [beq_eq_false_iff_ne]; omega
            obtain ⟨S', eS'⟩ : ∃ S', out.getD k' ByteArray.empty = S' := ⟨_, rfl⟩
            rw [eS'] at hft
            have HF := Lib.hid (fun W => fits_is (S'.size : Int) (p.size : Int) most W (by have := (HSEG.out k' (by omega)).2.1; rw [eS'] at this; omega) hmo hft)
            have hX0 := HXX.out 0 hcl1
            rw [hpr] at hX0
            have HX0 := Lib.hid (show X[1]? = some (.string p) from hX0)
            have hck := hcl k' (by omega)
            rw [eS'] at hck
            have HCK := Lib.hid hck
            have HCL1 := Lib.hid hcl1
            have ek : IntKind.i64.wrap (k' : Int) = (k' : Int) := IntWalk.i64_in _ (by omega)
            have hkn : k' < n := by omega
            have ek2 : (i : Int) - 1 = (k' : Int) := by omega
            clear hpr hft eS' hX0 hck hcl1 hk'
            have hb1 : decide (most < (S.size : Int)) = false := decide_eq_false hbig
            clear hs3 hbig hcl
            go_wp2_with fail
            refine (K3.out _).mono ?_
            rintro r w2 ⟨oc, cc, rfl, hx, hb⟩
            have hal := (Below.refl w2.heap.size w2).alloc (Nat.le_refl _) (.cells #[.int .i64 ((g : Int) + (d : Int)), .slice oc c cc, .int .i64 (S.size : Int), .bool true] 46)
            have hbw := bel_trans hb hal
            have cz2 := (hbw.cell (p := ⟨b, off + i, none⟩) (cell_lt cz)).trans cz
            have HBW := Lib.hid hbw
            have HA2 := Lib.hid (ownsRow_below HHA.out hbw)
            have HX2 := Lib.hid (ownsRow_below hx hal)
            have HB3 := Lib.hid (bel_trans HB2.out hb)
            have HGX := Lib.hid (heap_alloc_new w2 (.cells #[.int .i64 ((g : Int) + (d : Int)), .slice oc c cc, .int .i64 (S.size : Int), .bool true] 46))
            have HLT := Lib.hid (show ∀ q, Value.ownBlock (.slice op d cp) = some q → q < w2.heap.size from fun q hq => Nat.lt_of_lt_of_le (HHA.out.lt q hq).2 hb.size)
            clear hx hb hal hbw
            go_wp2_with fail
            obtain ⟨W2, hW2⟩ : ∃ W2, w2.alloc (.cells #[.int .i64 ((g : Int) + (d : Int)), .slice oc c cc, .int .i64 (S.size : Int), .bool true] 46) = W2 := ⟨_, rfl⟩
            rw [hW2] at cz2 HBW HA2 HX2 HGX ⊢
            have HB4 := Lib.hid (show Below w1.heap.size w1 W2 from HB2.out.trans (HBW.out.mono HB2.out.size))
            clear hW2 HB3
            have hgx := (Array.getElem?_eq_some_iff.1 HGX.out).1
            generalize w2.heap.size = gx at *
            have c0 : W2.cell? ⟨gx, 0, none⟩ = some (.int .i64 ((g : Int) + (d : Int))) := by rw [cell_of_row _ _ _ _ _ _ HGX.out]; rfl
            have c1 : W2.cell? ⟨gx, 1, none⟩ = some (.slice oc c cc) := by rw [cell_of_row _ _ _ _ _ _ HGX.out]; rfl
            obtain ⟨gr, rfl, hgr, hrc⟩ := rrow_cells HX2.out HCL1.out
            have p1 := hrc _ _ HX0.out
            have ck := (HB4.out.cell (p := ⟨b, off + k', none⟩) hbl).trans HCK.out
            clear hrc
            have hcp := HCL1.out
            go_quiet ((go_at_call 20; exact Calls.quiet_of_same (HF.out _)))
            go_wp2_with fail
            refine (payloads_any c _ cc X (gB gs i) _ _ (by omega) HC.out HXX.out (ownsRow_below HX2.out (below_drewN (Below.refl _ _) _))).mono ?_
            rintro r w3 ⟨v, rfl, ho, hb⟩
            obtain ⟨oq, cq, rfl⟩ := row_shape ho
            have hb3 : Below W2.heap.size W2 w3 := bel_trans (below_drewN (Below.refl W2.heap.size W2) _) hb
            obtain ⟨o', c', e', hst⟩ := strs_of_own ho (by omega) (fun q hq => by have h1 := gB_mem gs _ (by rw [HN.out]; exact hin) q hq; rw [HN.out, HALL.out] at h1; have := sumZ_mem h1; have := HSM.out; omega)
            cases e'
            have haw := ownsRow_below HA2.out hb3
            have hb4 : Below w1.heap.size w1 w3 := HB4.out.trans (hb3.mono HB4.out.size)
            obtain ⟨v2, w4, r2, n2, g2⟩ := append_strs w3 w1.heap.size 23 _ d _ haw _ c cq _ hst (by omega) hb4.size
            have hb5 : Below w1.heap.size w1 w4 := hb4.grown g2 hb4.size (fun k hk => (haw.lt k hk).1)
            have hgw : w4.heap[gx]? = _ := (g2.block gx (Nat.lt_of_lt_of_le hgx hb3.size) (fun e => Nat.lt_irrefl _ (HLT.out gx e.symm))).trans ((hb3.block gx hgx).trans HGX.out)
            have d0 : w4.cell? ⟨gx, 0, none⟩ = some (.int .i64 ((g : Int) + (d : Int))) := by rw [cell_of_row _ _ _ _ _ _ hgw]; rfl
            have d1 : w4.cell? ⟨gx, 1, none⟩ = some (.slice (some ⟨gr, 0, none⟩) c cc) := by rw [cell_of_row _ _ _ _ _ _ hgw]; rfl
            have d2 : w4.cell? ⟨gx, 2, none⟩ = some (.int .i64 (S.size : Int)) := by rw [cell_of_row _ _ _ _ _ _ hgw]; rfl
            have d3 : w4.cell? ⟨gx, 3, none⟩ = some (.bool true) := by rw [cell_of_row _ _ _ _ _ _ hgw]; rfl
            have R2 := Lib.hid r2
            have N2 := Lib.hid n2
            have HB5 := Lib.hid hb5
            clear ho hb hb3 hst haw hb4 r2 n2 g2 hb5 hgw c0 c1 cz2
            go_wp2_with (at_builtin; refine list_append_run rfl (.tmp 107) (.tmp 110) 23 rfl _ _ _ _ rfl rfl R2.out ?_)
            refine (next_is ((g : Int) + (d : Int)) _ c cc _ true _ (by omega) (by omega)).mono ?_
            rintro r w5 ⟨rfl, hb⟩
            have N5 := Lib.hid (ownsRow_below N2.out hb)
            have HB6 := Lib.hid (HB5.out.trans (hb.mono HB5.out.size))
            clear hb d0 d1 d2 d3 N2 HB5 R2
            go_wp2_with fail
            go_roundw
            case rel =>
              have hsl : (allB gs (i + 1)).length = d + c := by rw [HSUCC.out, List.length_append, HD.out, HC.out]
              have hsr : stRow (allB gs (i + 1)) = stRow (allB gs i) ++ stRow (gB gs i) := by rw [HSUCC.out]; unfold stRow; rw [List.map_append]
              exact ⟨i + 1, by omega, by go_num, by rw [hsl]; go_num, by rw [hsl, hsr]; exact N5.out, HB6.out⟩
            case measure => simp [intOf]; omega
theorem ssplit_law (f : Int) (oa : Option Addr) (len cap : Nat) (z : List ByteArray) (most : Int) (w : World) (hz : StrsIn w oa len cap z) (hmo : (Lit.int .i64 most).wf = true) (h : Laid w) :
    Calls Tryz.prog 9 #[.int .i64 f, .slice oa len cap, .int .i64 most] w fun r w' => r = .returned (.bool true) ∧ Below w.heap.size w w' :=
  ssplit_any f oa len cap z most w hz (by simp [Lit.wf, IntKind.min, IntKind.max, IntKind.signed, IntKind.bits] at hmo; omega) h
end Go.Proofs.YtaonjbkkgeiniaaGreatDoor
