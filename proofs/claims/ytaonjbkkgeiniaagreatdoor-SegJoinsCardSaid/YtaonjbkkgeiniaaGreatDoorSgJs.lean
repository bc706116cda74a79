/- soukref11.Split. -/
import Derived.Test.YtaonjbkkgeiniaaGreatDoorSgJr
import Derived.Laws.OwnMore
import Derived.RangeFuncBox
namespace Go.Proofs.YtaonjbkkgeiniaaGreatDoor
open Go.RowKit

theorem sp_step {mo g : Nat} {z : List ByteArray} {i : Nat} {D : List (List UInt8)} {C : List UInt8} (hk : spK mo g (paysL z) i = (D, C)) (hi : i < z.length) {s : ByteArray} (hs : z.getD i ByteArray.empty = s) :
    spK mo g (paysL z) (i + 1) = if 16 < C.length ∧ mo < C.length + 16 + s.size then (D ++ [C], hdrL (g + i) ++ frm (g + i) s.data.toList) else (D, C ++ frm (g + i) s.data.toList) := by
  rw [List.getD_eq_getElem?_getD, List.getElem?_eq_getElem hi] at hs
  have hs' : z[i] = s := hs
  have hl : i < (paysL z).length := by rw [pays_len]; exact hi
  have hg : (paysL z)[i] = s.data.toList := by simp only [paysL, List.getElem_map, hs']
  rw [spK_succ mo g (paysL z) i hl, hk, hg]
  rfl
/-- Split's row under way -/
def rsR (B : Nat) (D : List (List UInt8)) (C : List UInt8) (v : Value) (w : World) : Prop := w.ownsRow B 9 1 v (D.length + 1) (stRow ((D ++ [C]).map bs))
theorem rsR_at {B : Nat} {D : List (List UInt8)} {C : List UInt8} {v : Value} {w : World} (h : rsR B D C v w) :
    ∃ q cap, v = .slice (some ⟨q, 0, none⟩) (D.length + 1) cap ∧ B ≤ q ∧ q < w.heap.size ∧ w.cell? ⟨q, D.length, none⟩ = some (.string (bs C)) ∧ w.frozen? ⟨q, D.length, none⟩ = false ∧
      ∀ u, rsR B D u v (w.setCell ⟨q, D.length, none⟩ (.string (bs u))) := by
  unfold rsR at h
  obtain ⟨q, cap, rfl⟩ := ownsRow_succ h
  have hlt := h.lt q rfl
  refine ⟨q, cap, rfl, hlt.1, hlt.2, ?_, h.frozenAt _, fun u => ?_⟩
  · rw [h.cellAt D.length (by omega)]
    unfold stRow
    rw [List.map_map, List.getElem?_map, List.getElem?_append_right (Nat.le_refl _), Nat.sub_self]
    rfl
  · have := (h.stored D.length (.string (bs u))).1
    unfold rsR
    have e : (stRow ((D ++ [C]).map bs)).set D.length (.string (bs u)) = stRow ((D ++ [u]).map bs) := by
      unfold stRow
      rw [List.map_map, List.map_map, List.map_append, List.map_append, List.set_append_right _ _ (by rw [List.length_map]; exact Nat.le_refl _), List.length_map, Nat.sub_self]
      rfl
    rw [← e]
    exact this
theorem spK_d (mo g : Nat) (ls : List (List UInt8)) : ∀ k, k ≤ ls.length → (spK mo g ls k).1.length ≤ k
  | 0, _ => by rw [spK_zero]; exact Nat.le_refl _
  | k + 1, h => by
    have ih := spK_d mo g ls k (by omega)
    rw [spK_succ mo g ls k (by omega)]
    unfold spStep
    split
    · show (_ ++ [_]).length ≤ _; rw [List.length_append, List.length_singleton]; omega
    · show (spK mo g ls k).1.length ≤ _; omega
theorem rsR_below {B : Nat} {D : List (List UInt8)} {C : List UInt8} {v : Value} {w w' : World} (h : rsR B D C v w) (hb : Below w.heap.size w w') : rsR B D C v w' := ownsRow_below h hb

set_option maxRecDepth 20000 in
set_option maxHeartbeats 8000000 in
theorem rsplit_any {len cap : Nat} {oa : Option Addr} (f most : Int) (z : List ByteArray) (w : World) (h : StrsIn w oa len cap z) (hm : -9223372036854775808 ≤ most ∧ most ≤ 9223372036854775807) (hs : sumZ z ≤ 20000) :
    Calls Tryz.prog 32 #[.int .i64 f, .slice oa len cap, .int .i64 most] w (spPost f z most w) := by
  have k1 := fun w => rheader_is f w
  by_cases hf : 0 ≤ f ∧ f ≤ 1048576
  case neg =>
    have e1 : hdA f = ⟨#[]⟩ := by unfold hdA; rw [if_neg hf]
    have e2 : hdX f = 1 := by unfold hdX; rw [if_neg hf]
    rw [e1, e2] at k1
    have K1 := Lib.hid k1
    have HP := Lib.hid (fun (w' : World) (hb : Below w.heap.size w w') => spPost_bad (f := f) (z := z) (most := most) 1 (by unfold spE; rw [if_pos (.inl (by omega))]) (by omega) hb)
    clear k1 h hs hf e1 e2
    go_enter Tryz.func32, Tryz.ntmps32
    go_wp2_with fail
    refine (K1.out _).mono ?_
    rintro e w1 ⟨rfl, hb⟩
    have HB := Lib.hid hb
    clear hb
    go_wp2_with fail
    go_ret2
    exact HP.out _ HB.out
  have e1 : hdA f = bs (hdrL f.toNat) := by unfold hdA; rw [if_pos hf]
  have e2 : hdX f = 0 := by unfold hdX; rw [if_pos hf]
  obtain ⟨g, rfl⟩ : ∃ g : Nat, f = g := ⟨f.toNat, by omega⟩
  rw [Int.toNat_natCast] at e1
  obtain ⟨H0, eH⟩ : ∃ H0, bs (hdrL g) = H0 := ⟨_, rfl⟩
  rw [e1, e2, eH] at k1
  have K1 := Lib.hid k1
  have EH := Lib.hid eH
  clear k1 e1 e2 eH
  by_cases h1 : most < 64
  · have d1 : decide (most < 64) = true := decide_eq_true h1
    have HP := Lib.hid (fun (w' : World) (hb : Below w.heap.size w w') => spPost_bad (f := g) (z := z) (most := most) 1 (by unfold spE; rw [if_pos (.inr (.inl h1))]) (by omega) hb)
    clear h hs hf h1
    go_enter Tryz.func32, Tryz.ntmps32
    go_wp2_with fail
    refine (K1.out _).mono ?_
    rintro e w1 ⟨rfl, hb⟩
    have HB := Lib.hid hb
    clear hb
    go_wp2_with fail
    go_ret2
    exact HP.out _ HB.out
  have d1 : decide (most < 64) = false := decide_eq_false h1
  by_cases h2 : 65536 < most
  · have d2 : decide ((65536 : Int) < most) = true := decide_eq_true h2
    have HP := Lib.hid (fun (w' : World) (hb : Below w.heap.size w w') => spPost_bad (f := g) (z := z) (most := most) 1 (by unfold spE; rw [if_pos (.inr (.inr h2))]) (by omega) hb)
    clear h hs hf h1 h2
    go_enter Tryz.func32, Tryz.ntmps32
    go_wp2_with fail
    refine (K1.out _).mono ?_
    rintro e w1 ⟨rfl, hb⟩
    have HB := Lib.hid hb
    clear hb
    go_wp2_with fail
    go_ret2
    exact HP.out _ HB.out
  have d2 : decide ((65536 : Int) < most) = false := decide_eq_false h2
  obtain ⟨mo, rfl⟩ : ∃ mo : Nat, most = mo := ⟨most.toNat, by omega⟩
  have hE : spE g z mo = wrE g z := by unfold spE; rw [if_neg (by omega)]
  have HS := Lib.hid h
  have KW := Lib.hid (fun W (hW : StrsIn W oa len cap z) => rwrong_any (g : Int) z W hW hf.1 hf.2)
  by_cases he : wrE (g : Int) z = 0
  case neg =>
    obtain ⟨n, hn⟩ : ∃ n, wrE (g : Int) z = n := ⟨_, rfl⟩
    rw [hn] at he KW hE
    have d3 : ((n : Int) != 0) = true := by rw [bne_iff_ne]; omega
    have HP := Lib.hid (fun (w' : World) (hb : Below w.heap.size w w') => spPost_bad (f := g) (z := z) (most := mo) n hE he hb)
    clear h hs hf hn he hE h1 h2
    go_enter Tryz.func32, Tryz.ntmps32
    go_wp2_with fail
    refine (K1.out _).mono ?_
    rintro e w1 ⟨rfl, hb⟩
    have HB := Lib.hid hb
    clear hb
    go_wp2_with fail
    refine (KW.out _ (strs_keep HS.out HB.out)).mono ?_
    rintro e w2 ⟨rfl, rfl⟩
    go_wp2_with fail
    go_ret2
    exact HP.out _ HB.out
  obtain ⟨hp, hfl⟩ := wr_ok he
  have hlz : z.length = len := h.1
  have hln : len ≤ 20000 := by have := sumZ_len z; omega
  have hgl : g + len ≤ 1048576 := by omega
  rw [he] at hE KW
  have HMK := Lib.hid (fun (i : Nat) (hi : i < z.length) (s : ByteArray) (hs : z.getD i ByteArray.empty = s) => (jn_take (g := g) hp (by omega) hi hs).1)
  have HCU := Lib.hid (fun (i : Nat) (hi : i ≤ z.length) => spK_cur mo g (paysL z) (fun l hl => by
    obtain ⟨p, hp', rfl⟩ := List.mem_map.1 hl
    exact hp p hp') i (by rw [pays_len]; exact hi))
  have HDL := Lib.hid (fun (i : Nat) (hi : i ≤ z.length) => spK_d mo g (paysL z) i (by rw [pays_len]; exact hi))
  have HST := Lib.hid (fun (i : Nat) (D : List (List UInt8)) (C : List UInt8) (s : ByteArray) (hk : spK mo g (paysL z) i = (D, C)) (hi : i < z.length) (hs : z.getD i ByteArray.empty = s) => sp_step hk hi hs)
  have HEND := Lib.hid (fun (D : List (List UInt8)) (C : List UInt8) (hk : spK mo g (paysL z) len = (D, C)) => (show spO g z mo = (D ++ [C]).map bs ∧ spE g z mo = 0 by
    refine ⟨?_, hE⟩
    unfold spO spB
    rw [if_pos hE, Int.toNat_natCast, Int.toNat_natCast, spK_all, pays_len, hlz, hk]))
  have HLZ := Lib.hid hlz
  obtain ⟨i0, hi0, hz0, hz1, hz2⟩ := info_parts infoS
  have HI := Lib.hid (⟨hi0, hz0, hz1, hz2⟩ : Tryz.prog.info? 9 = some i0 ∧ i0.zero = some (Value.string ⟨#[]⟩) ∧ i0.size = 1 ∧ i0.bytes = 16)
  clear h hs hf h1 h2 he hp hfl hlz hE hi0 hz0 hz1 hz2
  go_enter Tryz.func32, Tryz.ntmps32
  go_wp2_with fail
  refine (K1.out _).mono ?_
  rintro e w1 ⟨rfl, hb⟩
  have HB := Lib.hid hb
  clear hb
  go_wp2_with fail
  refine (KW.out _ (strs_keep HS.out HB.out)).mono ?_
  rintro e w2 ⟨rfl, rfl⟩
  go_wp2_with fail
  go_loopw [10, 11] (fun ov iv wr => ∃ (i : Nat) (D : List (List UInt8)) (C : List UInt8), i ≤ len ∧ iv = .int .i64 i ∧ spK mo g (paysL z) i = (D, C) ∧ rsR w.heap.size D C ov wr ∧ Below w.heap.size w wr) (fun _ iv _ => len - (intOf iv).toNat)
  case atStart =>
    refine ⟨0, [], hdrL g, Nat.zero_le _, rfl, spK_zero _ _ _, ?_, HB.out.alloc HB.out.size _⟩
    have := World.ownsRow_lit (base := w.heap.size) (e := 9) (size := 1) w1 #[.string H0] 1 HB.out.size (by decide) rfl
    rw [← EH.out] at this ⊢
    exact this
  case round =>
    obtain ⟨i, D, C, hi, rfl, hK, hR, hb⟩ := hrel
    have hcu := HCU.out i (by rw [HLZ.out]; exact hi)
    have hdl := HDL.out i (by rw [HLZ.out]; exact hi)
    rw [hK] at hcu hdl
    have hcu1 : 16 ≤ C.length ∧ C.length ≤ 16 + 4112 * i := hcu
    have hdl1 : D.length ≤ i := hdl
    have HK := Lib.hid hK
    have HR := Lib.hid hR
    have HBW := Lib.hid hb
    clear hcu hdl hK hb
    by_cases hin : i < len
    case neg =>
      obtain rfl : i = len := by omega
      obtain ⟨he1, he2⟩ := HEND.out D C HK.out
      obtain ⟨q, cq, rfl, _⟩ := rsR_at hR
      have HF := Lib.hid (show ∀ w', Below w.heap.size w w' → rsR w.heap.size D C (.slice (some ⟨q, 0, none⟩) (D.length + 1) cq) w' → spPost g z mo w (.returned (.tuple #[.slice (some ⟨q, 0, none⟩) (D.length + 1) cq, .int .i64 0])) w' by
        intro w' hb hr
        refine ⟨some ⟨q, 0, none⟩, cq, ?_, ?_, hb⟩
        · rw [he1, he2, List.length_map, List.length_append, List.length_singleton]; rfl
        · rw [he1, List.length_map, List.length_append, List.length_singleton]; exact hr)
      clear he1 he2 hR
      go_wp2_with fail
      go_ret2
      exact HF.out _ HBW.out HR.out
    case pos =>
      clear hR
      have d0 : decide ((i : Int) < (len : Int)) = true := decide_eq_true (by omega)
      rcases HS.out.2.2.2.2 with hz | ⟨b, off, rfl, hbl, hc⟩
      · omega
      obtain ⟨s, es⟩ : ∃ s, z.getD i ByteArray.empty = s := ⟨_, rfl⟩
      have c0 := (HBW.out.cell (p := ⟨b, off + i, none⟩) hbl).trans (hc i hin)
      rw [es] at c0
      obtain ⟨t1, t2, t3⟩ := HMK.out i (by rw [HLZ.out]; exact hin) s es
      have hst := HST.out i D C s HK.out (by rw [HLZ.out]; exact hin) es
      have hmk := fun W => rmake_any ((g : Int) + (i : Int)) s W (by omega)
      obtain ⟨F, eF⟩ : ∃ F, mkS ((g : Int) + (i : Int)) s = F := ⟨_, rfl⟩
      rw [t1, eF] at hmk
      rw [eF] at t2
      have hFs : F.size = 16 + s.size := by
        have := congrArg List.length t2
        rw [frm_len] at this
        exact this
      have KM := Lib.hid hmk
      have T2 := Lib.hid t2
      have FS := Lib.hid hFs
      have ST := Lib.hid hst
      have e12 : IntKind.i64.wrap ((g : Int) + (i : Int)) = (g : Int) + (i : Int) := IntWalk.i64_in _ (by omega)
      clear hc es t1 t2 hmk eF hFs hst
      go_wp2_with fail
      refine (KM.out _).mono ?_
      rintro e w3 ⟨rfl, hb⟩
      have HR3 := Lib.hid (rsR_below HR.out hb)
      have HB3 := Lib.hid (bel_trans HBW.out hb)
      clear hb
      obtain ⟨q, cq, hv, hq1, hq2, hq3, hq4, hq5⟩ := rsR_at HR3.out
      subst hv
      have HQ5 := Lib.hid hq5
      obtain ⟨S, eS⟩ : ∃ S, bs C = S := ⟨_, rfl⟩
      have hSz : S.size = C.length := by rw [← eS, size_bs]
      rw [eS] at hq3
      have ES := Lib.hid eS
      have fs := FS.out
      clear hq5 eS
      by_cases hcut : 16 < C.length ∧ mo < C.length + 16 + s.size
      case pos =>
        have d3 : decide ((16 : Int) < (S.size : Int)) = true := decide_eq_true (by omega)
        have d4 : decide ((mo : Int) < (S.size : Int) + (F.size : Int)) = true := decide_eq_true (by omega)
        have hst := ST.out
        rw [if_pos hcut] at hst
        have ST2 := Lib.hid hst
        have hh := fun w => rheader_is ((g : Int) + (i : Int)) w
        have e1 : hdA ((g : Int) + (i : Int)) = bs (hdrL (g + i)) := by unfold hdA; rw [if_pos (by omega), show ((g : Int) + (i : Int)).toNat = g + i by omega]
        have e2 : hdX ((g : Int) + (i : Int)) = 0 := by unfold hdX; rw [if_pos (by omega)]
        obtain ⟨H1, eH1⟩ : ∃ H1, bs (hdrL (g + i)) = H1 := ⟨_, rfl⟩
        have hH1 : H1.size = 16 := by rw [← eH1, size_bs, hdr_len]
        rw [e1, e2, eH1] at hh
        have KH := Lib.hid hh
        have EH1 := Lib.hid eH1
        have hcat : ¬ 9223372036854775807 < H1.size + F.size := by omega
        obtain ⟨d, hd⟩ : ∃ d, D.length = d := ⟨_, rfl⟩
        rw [hd] at hq3 hq4 hdl1
        have HD := Lib.hid hd
        obtain ⟨XS, hXS⟩ : ∃ XS, stRow ((D ++ [C]).map bs) = XS := ⟨_, rfl⟩
        have HR3' := Lib.hid (show w3.ownsRow w.heap.size 9 1 (.slice (some ⟨q, 0, none⟩) (d + 1) cq) (d + 1) XS by rw [← hd, ← hXS]; exact HR3.out)
        have HXS := Lib.hid hXS
        rw [hd]
        have hSb : S.size ≤ 100000000 := by omega
        have hFb : F.size ≤ 5000 := by omega
        clear hcut hst hh e1 e2 eH1 hH1 hd hXS HR3 HQ5 ST hSz fs FS
        go_wp2_with fail
        refine (KH.out _).mono ?_
        rintro e w4 ⟨rfl, hb⟩
        have HO := Lib.hid (ownsRow_below HR3'.out hb)
        have HB4 := Lib.hid (bel_trans HB3.out hb)
        clear hb
        go_wp2_with (at_builtin; refine wpList_append_own _ rfl _ _ 23 rfl w.heap.size 9 i0 (.string ⟨#[]⟩) 1 16 Tryz.underlying23 HI.out.1 HI.out.2.1 HI.out.2.2.1 HI.out.2.2.2 rfl (by decide) _ _ _ rfl (HO.out.alloc _) ⟨w4.heap.size, 0, none⟩ 1 1 [.string H1] rfl rfl (cell_one_new _ _ _) (by simp [Value.oneCell']) (by unfold maxLen; omega) (by omega) (by have := HB4.out.size; simp; omega) ?_)
        intro v' w7 hown hgrow _
        have hb7 : Below w.heap.size w w7 := (HB4.out.alloc HB4.out.size _).grown hgrow (by have := HB4.out.size; simp; omega) (fun j hj => (HO.out.lt j hj).1)
        have hr7 : rsR w.heap.size (D ++ [C]) (hdrL (g + i)) v' w7 := by
          unfold rsR
          have e : XS ++ [.string H1] = stRow ((D ++ [C] ++ [hdrL (g + i)]).map bs) := by
            rw [← HXS.out, ← EH1.out]
            simp [stRow]
          rw [← e, List.length_append, List.length_singleton, HD.out]
          exact hown
        obtain ⟨q7, c7, hv7, hq17, hq27, hq37, hq47, hq57⟩ := rsR_at hr7
        subst hv7
        rw [List.length_append, List.length_singleton, HD.out, EH1.out] at hq37
        rw [List.length_append, List.length_singleton, HD.out] at hq47
        have HQ7 := Lib.hid hq57
        have HB7 := Lib.hid hb7
        rw [List.length_append, List.length_singleton, HD.out]
        clear hown hgrow hb7 hr7 hq57
        go_wp2_with fail
        go_roundw
        case rel =>
          refine ⟨i + 1, D ++ [C], hdrL (g + i) ++ frm (g + i) s.data.toList, by omega, by go_num, ST2.out, ?_, HB7.out.setCell (by show w.heap.size ≤ q7; omega) _⟩
          have := HQ7.out (hdrL (g + i) ++ frm (g + i) s.data.toList)
          have e : bs (hdrL (g + i) ++ frm (g + i) s.data.toList) = H1 ++ F := by
            apply ba_ext
            rw [bs_data, data_app, ← EH1.out, bs_data, T2.out]
          rw [e, List.length_append, List.length_singleton, HD.out] at this
          exact this
        case measure => simp [intOf]; omega
      case neg =>
        have hst := ST.out
        rw [if_neg hcut] at hst
        have ST2 := Lib.hid hst
        have hcat : ¬ 9223372036854775807 < S.size + F.size := by omega
        obtain ⟨d, hd⟩ : ∃ d, D.length = d := ⟨_, rfl⟩
        rw [hd] at hq3 hq4 hdl1
        have HD := Lib.hid hd
        have hdd : (decide ((16 : Int) < (S.size : Int)) = true ∧ decide ((mo : Int) < (S.size : Int) + (F.size : Int)) = false) ∨ decide ((16 : Int) < (S.size : Int)) = false := by
          by_cases h16 : 16 < C.length
          · exact .inl ⟨decide_eq_true (by omega), decide_eq_false (by omega)⟩
          · exact .inr (decide_eq_false (by omega))
        rw [hd]
        have hSb : S.size ≤ 100000000 := by omega
        have hFb : F.size ≤ 5000 := by omega
        clear hcut hst hd ST hSz fs FS
        rcases hdd with ⟨d3, d4⟩ | d3
        all_goals
          go_wp2_with fail
          go_roundw
          case rel =>
            refine ⟨i + 1, D, C ++ frm (g + i) s.data.toList, by omega, by go_num, ST2.out, ?_, HB3.out.setCell (by show w.heap.size ≤ q; omega) _⟩
            have := HQ5.out (C ++ frm (g + i) s.data.toList)
            have e : bs (C ++ frm (g + i) s.data.toList) = S ++ F := by
              apply ba_ext
              rw [bs_data, data_app, ← ES.out, bs_data, T2.out]
            rw [e, HD.out] at this
            exact this
          case measure => simp [intOf]; omega
end Go.Proofs.YtaonjbkkgeiniaaGreatDoor
