/- The walk of FaultText. -/
import Derived.Test.YtabjpnggihginaaDoorFltFoundW
namespace Go.Proofs.YtabjpnggihginaaDoor
open Go.RowKit Go.Extern.Stop Go.Stop Go.Extern Go.Shelf

/-- FormatInt: at every int64 that is ok its text has at most 21 bytes -/
theorem prt_le (F : Int → ByteArray) (x : Wr) (h : 0 ≤ x.pl → (F x.pl).size ≤ 21) : (prt F x).size ≤ x.op.size + x.nm.size + 28 := by
  have h1 : spB.size = 1 := rfl
  have h2 : atB.size = 4 := rfl
  have h3 : coB.size = 2 := rfl
  unfold prt
  by_cases hp : 0 ≤ x.pl
  · have := h hp
    rw [if_pos hp]
    split <;> simp only [ByteArray.size_append] <;> omega
  · rw [if_neg hp]
    split <;> simp only [ByteArray.size_append] <;> omega
theorem txt_le (F : Int → ByteArray) (bt : ByteArray) (z : List Wr) (n : Nat) (h : hvy n z < 5000) (hF : ∀ x ∈ z, 0 ≤ x.pl → (F x.pl).size ≤ 21) : (txt F bt z).size + 2 * n ≤ 2 * hvy n z + bt.size := by
  induction z generalizing n with
  | nil => simp [hvy, txt]; omega
  | cons x z ih =>
    rw [hvy] at h ⊢
    split at h
    · rename_i hc
      rw [if_pos hc]
      have h1 := ih _ h (fun y hy => hF y (List.mem_cons_of_mem _ hy))
      have h2 := hvy_len _ _ h
      have h3 := prt_le F x (hF x (List.mem_cons_self ..))
      have h4 : one x = 20 + min 5000 x.op.size + min 5000 x.nm.size := rfl
      rw [txt, ByteArray.size_append]
      omega
    · omega

theorem txt_two (F : Int → ByteArray) (bt o : ByteArray) (z : List Wr) (h0 : F 0 = ⟨#[48]⟩) :
    txt F bt (⟨o, ⟨#[120]⟩, 0⟩ :: z) = (o ++ ⟨#[32, 120, 32, 97, 116, 32, 48, 58, 32]⟩) ++ txt F bt z := by
  rw [txt]
  unfold prt
  dsimp only
  rw [if_pos (by decide), if_neg (by decide +kernel), h0]
  congr 1
  have e : (ByteArray.mk #[32, 120, 32, 97, 116, 32, 48, 58, 32]) = spB ++ ⟨#[120]⟩ ++ (atB ++ ⟨#[48]⟩) ++ coB := by decide +kernel
  rw [e]
  simp only [ByteArray.append_assoc]
theorem txt_one (F : Int → ByteArray) (bt o : ByteArray) (z : List Wr) : txt F bt (⟨o, ⟨#[]⟩, -1⟩ :: z) = (o ++ ⟨#[58, 32]⟩) ++ txt F bt z := by
  rw [txt]
  unfold prt
  dsimp only
  rw [if_neg (by decide), if_pos rfl]
  rfl

set_option maxRecDepth 20000 in
set_option maxHeartbeats 4000000 in
theorem text_law (F : Int → ByteArray) (ok : Int → Prop) (hok : ∀ n, -9223372036854775808 ≤ n ∧ n ≤ 9223372036854775807 → ok n) (h0 : F 0 = ⟨#[48]⟩) (a : Option Addr) (len cap : Nat) (z : List Wr) (n : Int) (hn : -9223372036854775808 ≤ n ∧ n ≤ 9223372036854775807) (o : ByteArray) (w : World) (hF : FmtS w F ok) (hT : ErrT w) (h : WrsIn w a len cap z) :
    Calls Tryd.prog 3 #[.slice a len cap, .int .i64 n, .string o] w fun e w' => e = .returned (.bool true) ∧ Below w.heap.size w w' := by
  have hB : Base (.iface 23 (.int .i64 n)) := .inl ⟨n, rfl⟩
  have hz : ∀ x ∈ z, 0 ≤ x.pl → ok x.pl := fun x hx _ => hok _ (h.2.2.2.1 x hx)
  have hsz : ∀ x ∈ z, 0 ≤ x.pl → (F x.pl).size ≤ 21 := fun x hx hp => (hF.1 _ (hz x hx hp)).1
  have hnz := (hF.1 _ (hok n hn)).1
  have HLen := Lib.hid h.1
  have HF := Lib.hid hF
  have HT := Lib.hid hT
  have HZ := Lib.hid h
  clear hF hT h
  go_enter Tryd.func3, Tryd.ntmps3
  go_wp2_with fail
  refine (works_any F ok _ HF.out HT.out).mono ?_
  rintro e w1 ⟨rfl, hb1⟩
  have HB1 := Lib.hid hb1
  clear hb1
  go_wp2_with fail
  refine (heavy_any a len cap z _ (HZ.out.keep HB1.out)).mono ?_
  rintro e w2 ⟨rfl, hb2⟩
  have HB2 := Lib.hid (bel_trans HB1.out hb2)
  clear hb2 HB1
  by_cases hv : 5000 ≤ hvy 0 z
  · rw [decide_eq_true hv]
    clear hv
    go_wp2_with fail
    refine (works_any F ok _ (HF.out.keep HB2.out) (HT.out.keep HB2.out)).mono ?_
    rintro e w3 ⟨rfl, hb3⟩
    have HB3 := Lib.hid (bel_trans HB2.out hb3)
    clear hb3 HB2
    go_wp2_with fail
    go_ret
    exact ⟨rfl, HB3.out⟩
  · rw [decide_eq_false hv]
    by_cases ho : 2000 < o.size
    · have d1 : decide ((2000 : Int) < (o.size : Int)) = true := decide_eq_true (by omega)
      go_wp2_with fail
      refine (works_any F ok _ (HF.out.keep HB2.out) (HT.out.keep HB2.out)).mono ?_
      rintro e w3 ⟨rfl, hb3⟩
      have HB3 := Lib.hid (bel_trans HB2.out hb3)
      clear hb3 HB2
      go_wp2_with fail
      go_ret
      exact ⟨rfl, HB3.out⟩
    · have d1 : decide ((2000 : Int) < (o.size : Int)) = false := decide_eq_false (by omega)
      have hbt : (baT F (.iface 23 (.int .i64 n))).size ≤ 33 := by
        show (seB ++ F n).size ≤ 33
        rw [ByteArray.size_append]; have : seB.size = 12 := rfl; omega
      have hts := txt_le F (baT F (.iface 23 (.int .i64 n))) z 0 (by omega) hsz
      obtain ⟨S, eS⟩ : ∃ S, txt F (baT F (.iface 23 (.int .i64 n))) z = S := ⟨_, rfl⟩
      have hS : S.size ≤ 10100 := by rw [← eS]; omega
      have HEmp := Lib.hid (show z = [] → S = seB ++ F n by intro e; rw [← eS, e]; rfl)
      have HS := Lib.hid eS
      have HSZ := Lib.hid hS
      clear hts hbt hv eS hS
      go_wp2_with fail
      refine (made_any a len cap z n _ (HZ.out.keep HB2.out)).mono ?_
      rintro e w3 ⟨v, rfl, hc3, hb3⟩
      have HC3 := Lib.hid hc3
      have HB3 := Lib.hid (bel_trans HB2.out hb3)
      clear hb3 hc3 HB2
      go_wp2_with fail
      have HX := Lib.hid (text_any F ok _ hB (fun m e => by cases e; exact hok n hn) z v w3 HC3.out (HF.out.1.keep HB3.out) hz (by rw [HS.out]; have := HSZ.out; omega))
      rw [HS.out] at HX
      refine HX.out.mono ?_
      rintro e w4 ⟨rfl, hb4⟩
      have HC4 := Lib.hid (HC3.out.on hb4)
      have HB4 := Lib.hid (bel_trans HB3.out hb4)
      clear hb4 HX HC3 HB3
      by_cases hl0 : len = 0
      · subst hl0
        have hz0 : z = [] := List.length_eq_zero_iff.1 HLen.out
        have hS := HEmp.out hz0
        have HE := Lib.hid (errno_any n F ok w4 (HF.out.1.keep HB4.out) (hok n hn))
        rw [← hS] at HE
        clear hS hz0
        go_wp2_with fail
        refine HE.out.mono ?_
        rintro e w5 ⟨rfl, hb5⟩
        have HC4' := Lib.hid (HC4.out.on hb5)
        have HB4' := Lib.hid (bel_trans HB4.out hb5)
        clear hb5 HE HC4 HB4
        go_wp2_with fail
        refine (wrap_chn z _ hB v o ⟨#[]⟩ (-1) w5 HC4'.out).mono ?_
        rintro e w5x ⟨v5, rfl, hc5, hb5⟩
        have HC5 := Lib.hid hc5
        have HD5 := Lib.hid (HC4'.out.on hb5)
        have HB5 := Lib.hid (bel_trans HB4'.out hb5)
        clear hb5 hc5 HC4' HB4'
        go_wp2_with fail
        have HX := Lib.hid (text_any F ok _ hB (fun m e => by cases e; exact hok n hn) _ v5 w5x HC5.out (HF.out.1.keep HB5.out) (fun x hx hp => by
          rcases List.mem_cons.1 hx with rfl | hx
          · exact absurd (show (0 : Int) ≤ -1 from hp) (by decide)
          · exact hz x hx hp) (by rw [txt_one, HS.out, ByteArray.size_append, ByteArray.size_append]; have := HSZ.out; have : (ByteArray.mk #[58, 32]).size = 2 := rfl; omega))
        rw [txt_one, HS.out] at HX
        refine HX.out.mono ?_
        rintro e w6 ⟨rfl, hb6⟩
        have HD6 := Lib.hid (HD5.out.on hb6)
        have HB6 := Lib.hid (bel_trans HB5.out hb6)
        clear hb6 HX HC5 HD5 HB5
        have q1 : ¬ 9223372036854775807 < o.size + (ByteArray.mk #[58, 32]).size := by have : (ByteArray.mk #[58, 32]).size = 2 := rfl; omega
        have q2 : ¬ 9223372036854775807 < (o ++ ByteArray.mk #[58, 32]).size + S.size := by rw [ByteArray.size_append]; have := HSZ.out; have : (ByteArray.mk #[58, 32]).size = 2 := rfl; omega
        go_wp2_with fail
        refine (wrap_chn z _ hB v o ⟨#[120]⟩ 0 w6 HD6.out).mono ?_
        rintro e w7 ⟨v7, rfl, hc7, hb7⟩
        have HC7 := Lib.hid hc7
        have HB7 := Lib.hid (bel_trans HB6.out hb7)
        clear hb7 hc7 HD6 HB6
        go_wp2_with fail
        have HX := Lib.hid (text_any F ok _ hB (fun m e => by cases e; exact hok n hn) _ v7 w7 HC7.out (HF.out.1.keep HB7.out) (fun x hx hp => by
          rcases List.mem_cons.1 hx with rfl | hx
          · exact hok 0 (by omega)
          · exact hz x hx hp) (by rw [txt_two F _ _ _ h0, HS.out, ByteArray.size_append, ByteArray.size_append]; have := HSZ.out; have : (ByteArray.mk #[32, 120, 32, 97, 116, 32, 48, 58, 32]).size = 9 := rfl; omega))
        rw [txt_two F _ _ _ h0, HS.out] at HX
        refine HX.out.mono ?_
        rintro e w8 ⟨rfl, hb8⟩
        have HB8 := Lib.hid (bel_trans HB7.out hb8)
        clear hb8 HX HC7 HB7 q1 q2
        have q3 : ¬ 9223372036854775807 < o.size + (ByteArray.mk #[32, 120, 32, 97, 116, 32, 48, 58, 32]).size := by have : (ByteArray.mk #[32, 120, 32, 97, 116, 32, 48, 58, 32]).size = 9 := rfl; omega
        have q4 : ¬ 9223372036854775807 < (o ++ ByteArray.mk #[32, 120, 32, 97, 116, 32, 48, 58, 32]).size + S.size := by rw [ByteArray.size_append]; have := HSZ.out; have : (ByteArray.mk #[32, 120, 32, 97, 116, 32, 48, 58, 32]).size = 9 := rfl; omega
        go_wp2_with fail
        go_ret
        exact ⟨rfl, HB8.out⟩
      · have d2 : ((len : Int) == 0) = false := by rw [beq_eq_false_iff_ne]; omega
        go_wp2_with fail
        refine (wrap_chn z _ hB v o ⟨#[]⟩ (-1) w4 HC4.out).mono ?_
        rintro e w5 ⟨v5, rfl, hc5, hb5⟩
        have HC5 := Lib.hid hc5
        have HD5 := Lib.hid (HC4.out.on hb5)
        have HB5 := Lib.hid (bel_trans HB4.out hb5)
        clear hb5 hc5 HC4 HB4
        go_wp2_with fail
        have HX := Lib.hid (text_any F ok _ hB (fun m e => by cases e; exact hok n hn) _ v5 w5 HC5.out (HF.out.1.keep HB5.out) (fun x hx hp => by
          rcases List.mem_cons.1 hx with rfl | hx
          · exact absurd (show (0 : Int) ≤ -1 from hp) (by decide)
          · exact hz x hx hp) (by rw [txt_one, HS.out, ByteArray.size_append, ByteArray.size_append]; have := HSZ.out; have : (ByteArray.mk #[58, 32]).size = 2 := rfl; omega))
        rw [txt_one, HS.out] at HX
        refine HX.out.mono ?_
        rintro e w6 ⟨rfl, hb6⟩
        have HD6 := Lib.hid (HD5.out.on hb6)
        have HB6 := Lib.hid (bel_trans HB5.out hb6)
        clear hb6 HX HC5 HD5 HB5
        have q1 : ¬ 9223372036854775807 < o.size + (ByteArray.mk #[58, 32]).size := by have : (ByteArray.mk #[58, 32]).size = 2 := rfl; omega
        have q2 : ¬ 9223372036854775807 < (o ++ ByteArray.mk #[58, 32]).size + S.size := by rw [ByteArray.size_append]; have := HSZ.out; have : (ByteArray.mk #[58, 32]).size = 2 := rfl; omega
        go_wp2_with fail
        refine (wrap_chn z _ hB v o ⟨#[120]⟩ 0 w6 HD6.out).mono ?_
        rintro e w7 ⟨v7, rfl, hc7, hb7⟩
        have HC7 := Lib.hid hc7
        have HB7 := Lib.hid (bel_trans HB6.out hb7)
        clear hb7 hc7 HD6 HB6
        go_wp2_with fail
        have HX := Lib.hid (text_any F ok _ hB (fun m e => by cases e; exact hok n hn) _ v7 w7 HC7.out (HF.out.1.keep HB7.out) (fun x hx hp => by
          rcases List.mem_cons.1 hx with rfl | hx
          · exact hok 0 (by omega)
          · exact hz x hx hp) (by rw [txt_two F _ _ _ h0, HS.out, ByteArray.size_append, ByteArray.size_append]; have := HSZ.out; have : (ByteArray.mk #[32, 120, 32, 97, 116, 32, 48, 58, 32]).size = 9 := rfl; omega))
        rw [txt_two F _ _ _ h0, HS.out] at HX
        refine HX.out.mono ?_
        rintro e w8 ⟨rfl, hb8⟩
        have HB8 := Lib.hid (bel_trans HB7.out hb8)
        clear hb8 HX HC7 HB7 q1 q2
        have q3 : ¬ 9223372036854775807 < o.size + (ByteArray.mk #[32, 120, 32, 97, 116, 32, 48, 58, 32]).size := by have : (ByteArray.mk #[32, 120, 32, 97, 116, 32, 48, 58, 32]).size = 9 := rfl; omega
        have q4 : ¬ 9223372036854775807 < (o ++ ByteArray.mk #[32, 120, 32, 97, 116, 32, 48, 58, 32]).size + S.size := by rw [ByteArray.size_append]; have := HSZ.out; have : (ByteArray.mk #[32, 120, 32, 97, 116, 32, 48, 58, 32]).size = 9 := rfl; omega
        go_wp2_with fail
        go_ret
        exact ⟨rfl, HB8.out⟩

end Go.Proofs.YtabjpnggihginaaDoor
