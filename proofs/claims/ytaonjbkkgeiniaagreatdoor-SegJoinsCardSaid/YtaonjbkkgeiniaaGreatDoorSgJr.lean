/- soukref11.wrong and Join. -/
import Derived.Test.YtaonjbkkgeiniaaGreatDoorSegHeadsW
import Derived.Test.YtaonjbkkgeiniaaGreatDoorSgSl
namespace Go.Proofs.YtaonjbkkgeiniaaGreatDoor
open Go.RowKit

theorem wr_of_bad {f : Int} {z : List ByteArray} {i : Nat} (hi : i < z.length) (h : ¬ payOk (z.getD i ByteArray.empty).data.toList) : wrE f z = 4 := by
  unfold wrE
  rw [if_pos]
  refine ⟨z.getD i ByteArray.empty, ?_, h⟩
  rw [List.getD_eq_getElem?_getD, List.getElem?_eq_getElem hi]
  exact List.getElem_mem _
theorem wr_of_good {f : Int} {z : List ByteArray} (h : ∀ i, i < z.length → payOk (z.getD i ByteArray.empty).data.toList) : wrE f z = if 1048576 < f + z.length then 40 else 0 := by
  unfold wrE
  rw [if_neg]
  rintro ⟨p, hp, hn⟩
  obtain ⟨i, hi, rfl⟩ := List.getElem_of_mem hp
  have := h i hi
  rw [List.getD_eq_getElem?_getD, List.getElem?_eq_getElem hi] at this
  exact hn this
theorem ret_i64 {a b : Int} (h : a = b) : Ending.returned (.int .i64 a) = .returned (.int .i64 b) := by rw [h]

set_option maxHeartbeats 1000000 in
theorem rwrong_any {len cap : Nat} {oa : Option Addr} (f : Int) (z : List ByteArray) (w : World) (h : StrsIn w oa len cap z) (hf : 0 ≤ f) (hf2 : f ≤ 1048576) :
    Calls Tryz.prog 59 #[.int .i64 f, .slice oa len cap] w fun e w' => e = .returned (.int .i64 (wrE f z)) ∧ w = w' := by
  have H := Lib.hid h
  have hlen : len ≤ 8796093021952 := h.2.2.1
  have HZ := Lib.hid h.1
  clear h
  go_enter Tryz.func59, Tryz.ntmps59
  go_wp2_with fail
  go_loopw [5] (fun iv wr => ∃ i : Nat, i ≤ len ∧ iv = .int .i64 i ∧ (∀ j, j < i → payOk (z.getD j ByteArray.empty).data.toList) ∧ wr = w) (fun iv _ => len - (intOf iv).toNat)
  case atStart => exact ⟨0, Nat.zero_le _, rfl, (fun j hj => absurd hj (Nat.not_lt_zero _)), rfl⟩
  case round =>
    obtain ⟨i, hi, rfl, hg, rfl⟩ := hrel
    have HG := Lib.hid hg
    clear hg
    by_cases hin : i < len
    · have d0 : decide ((i : Int) < (len : Int)) = true := decide_eq_true (by omega)
      rcases H.out.2.2.2.2 with hz | ⟨b, off, rfl, hb, hc⟩
      · omega
      obtain ⟨s, es⟩ : ∃ s, z.getD i ByteArray.empty = s := ⟨_, rfl⟩
      have c0 := hc i hin
      rw [es] at c0
      have ES := Lib.hid es
      clear hc es
      by_cases h1 : s.size < 1
      · have d1 : decide ((s.size : Int) < 1) = true := decide_eq_true (by omega)
        have HE := Lib.hid (show (wrE f z : Nat) = 4 from wr_of_bad (by rw [HZ.out]; exact hin) (by rw [ES.out]; unfold payOk; rw [len_data]; omega))
        clear h1
        go_wp2_with fail
        go_ret
        exact ⟨ret_i64 (by rw [HE.out]; rfl), rfl⟩
      have d1 : decide ((s.size : Int) < 1) = false := decide_eq_false (by omega)
      by_cases h2 : 4096 < s.size
      · have d2 : decide ((4096 : Int) < (s.size : Int)) = true := decide_eq_true (by omega)
        have HE := Lib.hid (show (wrE f z : Nat) = 4 from wr_of_bad (by rw [HZ.out]; exact hin) (by rw [ES.out]; unfold payOk; rw [len_data]; omega))
        clear h1 h2
        go_wp2_with fail
        go_ret
        exact ⟨ret_i64 (by rw [HE.out]; rfl), rfl⟩
      have d2 : decide ((4096 : Int) < (s.size : Int)) = false := decide_eq_false (by omega)
      have HP := Lib.hid (show payOk s.data.toList by unfold payOk; rw [len_data]; omega)
      clear h1 h2
      go_wp2_with fail
      go_roundw
      case rel =>
        refine ⟨i + 1, by omega, by go_num, fun j hj => ?_, trivial⟩
        by_cases hji : j = i
        · rw [hji, ES.out]; exact HP.out
        · exact HG.out j (by omega)
      case measure => simp [intOf]; omega
    · obtain rfl : i = len := by omega
      have he := wr_of_good (f := f) (z := z) (by rw [HZ.out]; exact HG.out)
      rw [HZ.out] at he
      have ew : IntKind.i64.wrap (f + (i : Int)) = f + (i : Int) := IntWalk.i64_in _ (by omega)
      by_cases h3 : 1048576 < f + (i : Int)
      · have d3 : decide ((1048576 : Int) < f + (i : Int)) = true := decide_eq_true h3
        rw [if_pos h3] at he
        have HE := Lib.hid he
        clear he h3
        go_wp2_with fail
        go_ret
        exact ⟨ret_i64 (by rw [HE.out]; rfl), rfl⟩
      · have d3 : decide ((1048576 : Int) < f + (i : Int)) = false := decide_eq_false h3
        rw [if_neg h3] at he
        have HE := Lib.hid he
        clear he h3
        go_wp2_with fail
        go_ret
        exact ⟨ret_i64 (by rw [HE.out]; rfl), rfl⟩

/-- what Join has put together before payload i -/
theorem jn_take {g : Nat} {z : List ByteArray} (hp : ∀ p ∈ z, payOk p.data.toList) (hl : g + z.length ≤ 1048576) {i : Nat} (hi : i < z.length) {s : ByteArray} (hs : z.getD i ByteArray.empty = s) :
    (mkE ((g : Int) + (i : Int)) s = 0 ∧ (mkS ((g : Int) + (i : Int)) s).data.toList = frm (g + i) s.data.toList ∧ 1 ≤ s.size ∧ s.size ≤ 4096) ∧ joinF (g : Int) (paysL (z.take (i + 1))) = joinF (g : Int) (paysL (z.take i)) ++ frm (g + i) s.data.toList ∧ sizeF (paysL (z.take (i + 1))) = sizeF (paysL (z.take i)) + (16 + s.size) := by
  rw [List.getD_eq_getElem?_getD, List.getElem?_eq_getElem hi] at hs
  have hs' : z[i] = s := hs
  have hm := hp s (by rw [← hs']; exact List.getElem_mem _)
  unfold payOk at hm
  rw [len_data] at hm
  have e0 : mkE ((g : Int) + (i : Int)) s = 0 := by
    unfold mkE
    rw [if_neg (by omega), if_neg (by omega), if_neg (by omega)]
  refine ⟨⟨e0, ?_, hm⟩, ?_, ?_⟩
  · unfold mkS
    rw [if_pos e0, bs_data, show ((g : Int) + (i : Int)).toNat = g + i by omega]
  · rw [List.take_succ_eq_append_getElem hi, hs']
    unfold paysL
    rw [List.map_append, List.map_cons, List.map_nil, join_snoc, List.length_map, List.length_take, show ((g : Int) + ((min i z.length : Nat) : Int)).toNat = g + i by omega]
  · rw [List.take_succ_eq_append_getElem hi, hs']
    unfold paysL
    rw [List.map_append, List.map_cons, List.map_nil, size_snoc, len_data]

theorem wr_jn {f : Int} {z : List ByteArray} (hf : 0 ≤ f ∧ f ≤ 1048576) (hs : sumZ z ≤ 20000) : jnE f (paysL z) = wrE f z := by
  have h3 := size_sum z
  unfold jnE wrE
  rw [if_neg (by omega), pays_len]
  by_cases h1 : ∃ p ∈ z, ¬ payOk p.data.toList
  · rw [if_pos h1, if_pos ((pays_mem z).2 h1)]
  · rw [if_neg h1, if_neg (fun hn => h1 ((pays_mem z).1 hn))]
    by_cases h2 : 1048576 < f + z.length
    · rw [if_pos h2, if_pos h2]
    · rw [if_neg h2, if_neg h2, if_neg (by omega)]

set_option maxRecDepth 20000 in
set_option maxHeartbeats 4000000 in
theorem rjoin_any {len cap : Nat} {oa : Option Addr} (f : Int) (z : List ByteArray) (w : World) (h : StrsIn w oa len cap z) (hs : sumZ z ≤ 20000) :
    Calls Tryz.prog 31 #[.int .i64 f, .slice oa len cap] w fun e w' => e = .returned (.tuple #[.string (bs (jnL f (paysL z))), .int .i64 (jnE f (paysL z))]) ∧ Below w.heap.size w w' := by
  have k1 := fun w => rheader_is f w
  by_cases hf : 0 ≤ f ∧ f ≤ 1048576
  case neg =>
    have e1 : hdA f = ⟨#[]⟩ := by unfold hdA; rw [if_neg hf]
    have e2 : hdX f = 1 := by unfold hdX; rw [if_neg hf]
    have e3 : jnE f (paysL z) = 1 := by unfold jnE; rw [if_pos (by omega)]
    have e4 : jnL f (paysL z) = [] := by unfold jnL; rw [e3, if_neg (by decide)]
    rw [e1, e2] at k1
    rw [e3, e4]
    have K1 := Lib.hid k1
    clear k1 h hs hf e1 e2 e3 e4
    go_enter Tryz.func31, Tryz.ntmps31
    go_wp2_with fail
    refine (K1.out _).mono ?_
    rintro e w1 ⟨rfl, hb⟩
    have HB := Lib.hid hb
    clear hb
    go_wp2_with fail
    go_ret2
    exact ⟨rfl, HB.out⟩
  have e1 : hdA f = bs (hdrL f.toNat) := by unfold hdA; rw [if_pos hf]
  have e2 : hdX f = 0 := by unfold hdX; rw [if_pos hf]
  have e3 := wr_jn hf hs
  obtain ⟨g, rfl⟩ : ∃ g : Nat, f = g := ⟨f.toNat, by omega⟩
  rw [Int.toNat_natCast] at e1
  obtain ⟨H0, eH⟩ : ∃ H0, bs (hdrL g) = H0 := ⟨_, rfl⟩
  rw [e1, e2, eH] at k1
  have K1 := Lib.hid k1
  have HS := Lib.hid h
  have KW := Lib.hid (fun W (hW : StrsIn W oa len cap z) => rwrong_any (g : Int) z W hW hf.1 hf.2)
  by_cases he : wrE (g : Int) z = 0
  case neg =>
    obtain ⟨n, hn⟩ : ∃ n, wrE (g : Int) z = n := ⟨_, rfl⟩
    have e4 : jnL (g : Int) (paysL z) = [] := by unfold jnL; rw [e3, if_neg he]
    rw [hn] at he e3 KW
    rw [e3, e4]
    have d3 : ((n : Int) != 0) = true := by rw [bne_iff_ne]; omega
    clear k1 h hs hf e1 e2 e3 e4 eH hn he
    go_enter Tryz.func31, Tryz.ntmps31
    go_wp2_with fail
    refine (K1.out _).mono ?_
    rintro e w1 ⟨rfl, hb⟩
    have HB := Lib.hid hb
    clear hb
    go_wp2_with fail
    refine (KW.out _ (strs_keep HS.out HB.out)).mono ?_
    rintro e w2 ⟨rfl, rfl⟩
    go_wp2_with fail
    go_ret2
    exact ⟨rfl, HB.out⟩
  obtain ⟨hp, hfl⟩ := wr_ok he
  have hlz : z.length = len := h.1
  have hln : len ≤ 20000 := by have := sumZ_len z; omega
  have hss := size_sum z
  have HT := Lib.hid (fun (i : Nat) (hi : i < z.length) (s : ByteArray) (hs : z.getD i ByteArray.empty = s) => jn_take (g := g) hp (by omega) hi hs)
  have HTK := Lib.hid (fun i => show sizeF (paysL (z.take i)) ≤ 16 * 20000 by have h1 := size_sum (z.take i); have h2 := sumZ_take_le z i; omega)
  have e4 : jnL (g : Int) (paysL z) = hdrL g ++ joinF (g : Int) (paysL z) := by unfold jnL; rw [e3, if_pos he, Int.toNat_natCast]
  rw [he] at e3 KW
  rw [e3, e4]
  have EH := Lib.hid eH
  have HLZ := Lib.hid hlz
  have hgl : g + len ≤ 1048576 := by omega
  clear k1 h hs hf e1 e2 e3 e4 eH he hp hfl hlz hss
  go_enter Tryz.func31, Tryz.ntmps31
  go_wp2_with fail
  refine (K1.out _).mono ?_
  rintro e w1 ⟨rfl, hb⟩
  have HB := Lib.hid hb
  clear hb
  go_wp2_with fail
  refine (KW.out _ (strs_keep HS.out HB.out)).mono ?_
  rintro e w2 ⟨rfl, rfl⟩
  go_wp2_with fail
  go_loopw [6, 8] (fun sv iv wr => ∃ (i : Nat) (S : ByteArray), i ≤ len ∧ iv = .int .i64 i ∧ sv = .string S ∧ S.data.toList = hdrL g ++ joinF (g : Int) (paysL (z.take i)) ∧ Below w.heap.size w wr) (fun _ iv _ => len - (intOf iv).toNat)
  case atStart => exact ⟨0, H0, Nat.zero_le _, rfl, rfl, by rw [← EH.out, bs_data]; show _ = _ ++ []; rw [List.append_nil], HB.out⟩
  case round =>
    obtain ⟨i, S, hi, rfl, rfl, hS, hb⟩ := hrel
    have hsz : S.size = 16 + sizeF (paysL (z.take i)) := by
      have := congrArg List.length hS
      rw [List.length_append, hdr_len, join_len] at this
      exact this
    have hsb := HTK.out i
    have HSS := Lib.hid hS
    have HBW := Lib.hid hb
    clear hS hb
    by_cases hin : i < len
    · have d0 : decide ((i : Int) < (len : Int)) = true := decide_eq_true (by omega)
      rcases HS.out.2.2.2.2 with hz | ⟨b, off, rfl, hbl, hc⟩
      · omega
      obtain ⟨s, es⟩ : ∃ s, z.getD i ByteArray.empty = s := ⟨_, rfl⟩
      have c0 := (HBW.out.cell (p := ⟨b, off + i, none⟩) hbl).trans (hc i hin)
      rw [es] at c0
      obtain ⟨⟨t1, t2, t3⟩, t4, t5⟩ := HT.out i (by rw [HLZ.out]; exact hin) s es
      have hmk := fun W => rmake_any ((g : Int) + (i : Int)) s W (by omega)
      obtain ⟨F, eF⟩ : ∃ F, mkS ((g : Int) + (i : Int)) s = F := ⟨_, rfl⟩
      rw [t1, eF] at hmk
      rw [eF] at t2
      have hFs : F.size = 16 + s.size := by
        have := congrArg List.length t2
        rw [frm_len] at this
        exact this
      have hcat : ¬ 9223372036854775807 < S.size + F.size := by omega
      have KM := Lib.hid hmk
      have T2 := Lib.hid t2
      have T4 := Lib.hid t4
      clear hc es t1 t2 t3 t4 t5 hmk eF hFs hsz hsb
      go_wp2_with fail
      refine (KM.out _).mono ?_
      rintro e w3 ⟨rfl, hb⟩
      have HB3 := Lib.hid (bel_trans HBW.out hb)
      clear hb
      go_wp2_with fail
      go_roundw
      case rel =>
        refine ⟨i + 1, S ++ F, by omega, by go_num, rfl, ?_, HB3.out⟩
        rw [data_app, HSS.out, T2.out, T4.out, List.append_assoc]
      case measure => simp [intOf]; omega
    · obtain rfl : i = len := by omega
      have hlt : z.take i = z := by rw [← HLZ.out]; exact List.take_length
      have d5 : decide ((1048576 : Int) < (S.size : Int)) = false := decide_eq_false (by omega)
      have HQ := Lib.hid (show S = bs (hdrL g ++ joinF (g : Int) (paysL z)) by
        apply ba_ext
        rw [HSS.out, hlt, bs_data])
      clear hlt hsz hsb
      go_wp2_with fail
      go_ret2
      exact ⟨by rw [← HQ.out]; rfl, HBW.out⟩
end Go.Proofs.YtaonjbkkgeiniaaGreatDoor
