/- strings.Cut at "-"; strconv.ParseInt at any text; seg.Named. -/
import Derived.Test.YtaonjbkkgeiniaaGreatDoorSgM
import Derived.BigQuiet
import Derived.Deep.QuietTactic
namespace Go.Proofs.YtaonjbkkgeiniaaGreatDoor
open Go.RowKit Go.Shelf Go.Lib

def dash (s : ByteArray) : Int := Lib.indexByte s.data.toList 45
/-- the text cut at its first "-" -/
def cutH (s : ByteArray) : ByteArray × ByteArray × Bool := if 0 ≤ dash s then (s.extract 0 (dash s).toNat, s.extract ((dash s).toNat + 1) s.size, true) else (s, ⟨#[]⟩, false)
theorem dash_lt (s : ByteArray) : dash s < s.size := by
  unfold dash
  have : ∀ l : List UInt8, Lib.indexByte l 45 < l.length ∨ Lib.indexByte l 45 = -1 := by
    intro l
    induction l with
    | nil => right; rfl
    | cons b l ih =>
      unfold Lib.indexByte
      split
      · left; simp
      · split
        · right; rfl
        · rename_i h1 h2
          have h3 : Lib.indexByte l 45 ≠ -1 := by simpa using h2
          left; simp only [List.length_cons]; omega
  rcases this s.data.toList with h | h
  · exact h
  · rw [h]; show (-1 : Int) < (s.size : Int); omega
set_option maxRecDepth 20000 in
theorem icut_any (s : ByteArray) (hs : s.size ≤ 1000000000) (w : World) : Calls Tryz.prog 68 #[.string s, .string ⟨#[45]⟩] w fun e w' => e = .returned (.tuple #[.string (cutH s).1, .string (cutH s).2.1, .bool (cutH s).2.2]) ∧ Below w.heap.size w w' := by
  have hl := dash_lt s
  have H := Lib.hid (show ∀ w, Calls Tryz.prog 92 #[.string s, .string ⟨#[45]⟩] w fun e w' => e = .returned (.int .i64 (dash s)) ∧ w' = w from fun w => Tryz.stringslite_Index_one s 45 w)
  by_cases h0 : 0 ≤ dash s
  · have HC := Lib.hid (show cutH s = (s.extract 0 (dash s).toNat, s.extract ((dash s).toNat + 1) s.size, true) from if_pos h0)
    obtain ⟨i, hi⟩ : ∃ i : Nat, dash s = i := ⟨(dash s).toNat, by omega⟩
    rw [hi] at H HC hl
    rw [Int.toNat_natCast] at HC
    have d1 : decide ((0 : Int) ≤ (i : Int)) = true := decide_eq_true (by omega)
    have g1 : (i : Int) ≤ (s.size : Int) := by omega
    have g2 : (i : Int) + 1 ≤ (s.size : Int) := by omega
    obtain ⟨j, hj⟩ : ∃ j : Nat, j = i + 1 := ⟨_, rfl⟩
    have ej : (i : Int) + 1 = (j : Int) := by omega
    have gj : (j : Int) ≤ (s.size : Int) := by omega
    rw [← hj] at HC
    clear h0 hi hj
    go_enter Tryz.func68, Tryz.ntmps68
    go_wp2_with fail
    refine (H.out _).mono ?_
    rintro e w1 ⟨rfl, rfl⟩
    go_wp2_with fail
    go_quiet (fail)
    go_wp2_with fail
    go_ret3
    refine ⟨by rw [HC.out]; rfl, ⟨(Below.refl w1.heap.size w1).os, (Below.refl w1.heap.size w1).tape, rfl, Nat.le_refl _, fun _ _ => rfl⟩⟩
  · have HC := Lib.hid (show cutH s = (s, ⟨#[]⟩, false) from if_neg h0)
    have d1 : decide ((0 : Int) ≤ dash s) = false := decide_eq_false h0
    obtain ⟨i, hi⟩ : ∃ i : Int, dash s = i := ⟨_, rfl⟩
    rw [hi] at H d1
    clear h0 hi hl
    go_enter Tryz.func68, Tryz.ntmps68
    go_wp2_with fail
    refine (H.out _).mono ?_
    rintro e w1 ⟨rfl, rfl⟩
    go_wp2_with fail
    go_ret3
    exact ⟨by rw [HC.out]; rfl, Below.refl _ _⟩
set_option maxRecDepth 20000 in
theorem cut_any (s : ByteArray) (hs : s.size ≤ 1000000000) (w : World) : Calls Tryz.prog 37 #[.string s, .string ⟨#[45]⟩] w fun e w' => e = .returned (.tuple #[.string (cutH s).1, .string (cutH s).2.1, .bool (cutH s).2.2]) ∧ Below w.heap.size w w' := by
  have H := Lib.hid (icut_any s hs w)
  generalize cutH s = c at *
  go_enter Tryz.func37, Tryz.ntmps37
  go_wp2_with fail
  refine H.out.mono ?_
  rintro e w1 ⟨rfl, hb⟩
  have HB := Lib.hid hb
  clear hb
  go_wp2_with fail
  go_ret3
  exact ⟨rfl, HB.out⟩
/-- an error's variable, and that it stays -/
def ErrV (nm : String) (w : World) : Prop := ∃ tp p, ∀ w', Below w.heap.size w w' → w'.var? Tryz.prog nm = some #[.iface tp p]
theorem ErrV.keep {nm : String} {w w' : World} (h : ErrV nm w) (hb : Below w.heap.size w w') : ErrV nm w' := by
  obtain ⟨t, p, h⟩ := h
  exact ⟨t, p, fun w2 h2 => h w2 (bel_trans hb h2)⟩
/-- what is laid: the table, and the two errors -/
structure Laid (w : World) : Prop where
  pow : PowT w
  syn : ErrV "strconv.ErrSyntax" w
  rng : ErrV "strconv.ErrRange" w
theorem Laid.keep {w w' : World} (h : Laid w) (hb : Below w.heap.size w w') : Laid w' := ⟨h.pow.keep hb, h.syn.keep hb, h.rng.keep hb⟩
theorem pint_any (s : ByteArray) (hs : s.size ≤ 1000) (w : World) (h : Laid w) :
    Calls Tryz.prog 39 #[.string s, .int .i64 10, .int .i64 64] w fun e w' => ∃ x, e = .returned (.tuple #[.int .i64 (piV s.data.toList), x]) ∧ Below w.heap.size w w' := by
  obtain ⟨t1, p1, h1⟩ := h.syn
  obtain ⟨t2, p2, h2⟩ := h.rng
  by_cases hok : ∃ v, Lib.parseIntB 64 s.data.toList = .ok v
  · obtain ⟨v, hv⟩ := hok
    refine (Tryz.strconv_ParseInt_10_at64_ok s (by omega) v hv w).mono ?_
    rintro e w' ⟨rfl, hw⟩
    refine ⟨.nilIface, by unfold piV; rw [hv], ?_⟩
    rcases hw with rfl | ⟨t, rfl⟩
    · exact Below.refl _ _
    · exact Lib.bytesWorld_below _ _ _
  · by_cases hr : Lib.parseIntB 64 s.data.toList = .range
    · refine (Tryz.strconv_ParseInt_10_at64_range_var s (by omega) hr t2 p2 w (h2 w (Below.refl _ _))).mono ?_
      rintro e w' ⟨N, rfl, _, _, hb⟩
      exact ⟨_, by unfold piV; rw [hr], hb⟩
    · have e0 : piV s.data.toList = 0 := by
        unfold piV
        cases hq : Lib.parseIntB 64 s.data.toList with
        | ok v => exact absurd ⟨v, hq⟩ hok
        | range => exact absurd hq hr
        | _ => rfl
      rw [e0]
      refine (Tryz.strconv_ParseInt_bad s (by omega) (fun v hv => hok ⟨v, hv⟩) hr t1 p1 w (h1 w (Below.refl _ _))).mono ?_
      rintro e w' ⟨N, rfl, _, _, hb⟩
      exact ⟨_, rfl, hb⟩
theorem piV_in (l : List UInt8) : -9223372036854775808 ≤ piV l ∧ piV l ≤ 9223372036854775807 := by
  unfold piV
  split
  · rename_i v hv
    unfold parseIntB at hv
    split at hv
    · cases hv
    · dsimp only at hv
      split at hv
      · cases hv
      · cases hv
      · have e63 : 2 ^ (64 - 1) = 9223372036854775808 := rfl
        rw [e63] at hv
        split at hv
        · cases hv
        · split at hv
          · cases hv
          · cases hv
            split <;> omega
  · unfold intSat
    split
    · show -((2 ^ (64 - 1) : Nat) : Int) ≥ _ ∧ _
      have e63 : 2 ^ (64 - 1) = 9223372036854775808 := rfl
      rw [e63]; omega
    · have e63 : 2 ^ (64 - 1) = 9223372036854775808 := rfl
      rw [e63]; omega
  · omega
theorem cutH_at (R : ByteArray) (k : Nat) (h : dash R = (k : Int)) : (cutH R).1.data.toList = R.data.toList.take k ∧ (cutH R).2.1.data.toList = R.data.toList.drop (k + 1) := by
  have hl : R.data.toList.length = R.size := rfl
  unfold cutH
  rw [if_pos (by omega), h, Int.toNat_natCast]
  refine ⟨?_, ?_⟩
  · simp
  · simp only [ByteArray.data_extract, Array.toList_extract]
    exact List.take_of_length_le (by rw [List.length_drop, hl]; omega)
theorem cutH_size (s : ByteArray) : (cutH s).1.size ≤ s.size ∧ (cutH s).2.1.size ≤ s.size := by
  unfold cutH
  split
  · exact ⟨by simp only [ByteArray.size_extract]; omega, by simp only [ByteArray.size_extract]; omega⟩
  · exact ⟨Nat.le_refl _, Nat.zero_le _⟩
/-- the name behind its "s" -/
def tS (s : ByteArray) : ByteArray := bs (Lib.trimPrefix s.data.toList [115])
theorem tS_size (s : ByteArray) : (tS s).size ≤ s.size := by
  unfold tS
  rw [size_bs, ← len_data]
  unfold Lib.trimPrefix
  split
  · rw [List.length_drop]; exact Nat.sub_le _ _
  · exact Nat.le_refl _
def gV (s : ByteArray) : Int := piV (cutH (tS s)).1.data.toList
def nV (s : ByteArray) : Int := piV (cutH (tS s)).2.1.data.toList
/-- the two numbers' name is the name just if it is one -/
theorem named_law (s : ByteArray) : (okN s.data.toList = true ∧ gV s = (ndG s.data.toList : Nat) ∧ nV s = (ndF s.data.toList : Nat) ∧ nmS (gV s) (nV s) = s) ∨ (okN s.data.toList = false ∧ nmS (gV s) (nV s) ≠ s) := by
  cases hq : okN s.data.toList with
  | true =>
    left
    obtain ⟨h1, h2, h3, h4, h5, h6⟩ := okN_parts hq
    obtain ⟨k1, k2, k3⟩ := nam_of_ok hq
    obtain ⟨D, hD⟩ : ∃ D, (s.data.toList.drop 1).take 8 = D := ⟨_, rfl⟩
    obtain ⟨F, hF⟩ : ∃ F, s.data.toList.drop 10 = F := ⟨_, rfl⟩
    have eG : ndG s.data.toList = vl 0 D := by unfold ndG; rw [hD]
    have eF : ndF s.data.toList = vl 0 F := by unfold ndF; rw [hF]
    rw [hD] at h1 h2 h4
    rw [hF] at h1 h3 h5
    have ht : (tS s).data.toList = D ++ 45 :: F := by
      unfold tS
      rw [bs_data, h1]
      unfold Lib.trimPrefix Lib.hasPrefix
      simp [List.isPrefixOf]
    have hdash : dash (tS s) = ((8 : Nat) : Int) := by
      unfold dash
      rw [ht]
      refine ib_at _ 45 8 ?_ ?_
      · intro b hb e
        rw [List.take_left' h2] at hb
        have := h4 b hb
        rw [e] at this
        cases this
      · rw [List.getElem?_append_right (by omega), h2]; rfl
    obtain ⟨c1, c2⟩ := cutH_at (tS s) 8 hdash
    rw [ht, List.take_left' h2] at c1
    rw [ht, List.drop_append, List.drop_of_length_le (by omega), h2] at c2
    have c2' : (cutH (tS s)).2.1.data.toList = F := c2
    have p8 : (10 : Nat) ^ 8 = 100000000 := by decide
    have p10 : (10 : Nat) ^ 10 = 10000000000 := by decide
    have v1 := vl_lt 8 D h2 h4
    have v2 := vl_lt 10 F h3 h5
    have g1 : gV s = (ndG s.data.toList : Nat) := by
      unfold gV
      rw [c1, eG]
      exact (piV_dig D (fun e => by rw [e] at h2; cases h2) h4 (by omega)).2
    have g2 : nV s = (ndF s.data.toList : Nat) := by
      unfold nV
      rw [c2', eF]
      exact (piV_dig F (fun e => by rw [e] at h3; cases h3) h5 (by omega)).2
    refine ⟨rfl, g1, g2, ?_⟩
    rw [g1, g2]
    unfold nmS
    rw [if_pos ⟨⟨by omega, by omega⟩, ⟨by omega, by omega⟩⟩, Int.toNat_natCast, Int.toNat_natCast]
    refine ba_ext ?_
    rw [bs_data]
    exact k1.symm
  | false =>
    right
    refine ⟨rfl, fun e => ?_⟩
    unfold nmS at e
    by_cases h : (0 ≤ gV s ∧ gV s ≤ 99999999) ∧ (0 ≤ nV s ∧ nV s ≤ 1048576)
    · rw [if_pos h] at e
      have := (okN_nam (gV s).toNat (nV s).toNat (by omega) (by omega)).1
      rw [← bs_data (namL (gV s).toNat (nV s).toNat), e, hq] at this
      cases this
    · rw [if_neg h] at e
      refine h ?_
      have e1 : gV s = 0 := by rw [← e]; rfl
      have e2 : nV s = 0 := by rw [← e]; rfl
      rw [e1, e2]
      omega
/-- Named's results -/
def ndV (s : ByteArray) : Value := if okN s.data.toList = true then .tuple #[.int .i64 (ndG s.data.toList : Nat), .int .i64 (ndF s.data.toList : Nat), .bool true] else .tuple #[.int .i64 0, .int .i64 0, .bool false]
set_option maxRecDepth 20000 in
set_option maxHeartbeats 2000000 in
theorem named_any (s : ByteArray) (hs : s.size ≤ 1000) (w : World) (h : Laid w) :
    Calls Tryz.prog 13 #[.string s] w fun e w' => e = .returned (ndV s) ∧ Below w.heap.size w w' := by
  have hts := tS_size s
  have hcs := cutH_size (tS s)
  have K1 := Lib.hid (show ∀ w, Calls Tryz.prog 38 #[.string s, .string ⟨#[115]⟩] w fun e w' => e = .returned (.string (tS s)) ∧ w' = w from fun w => Tryz.strings_TrimPrefix s ⟨#[115]⟩ w)
  have K2 := Lib.hid (fun w => cut_any (tS s) (by omega) w)
  have hn := named_law s
  obtain ⟨A, B, is, hc⟩ : ∃ A B is, cutH (tS s) = (A, B, is) := ⟨_, _, _, rfl⟩
  rw [hc] at K2 hcs
  dsimp only at hcs K2
  have K3 := fun w h => pint_any A (by omega) w h
  have K4 := fun w h => pint_any B (by omega) w h
  have eg : piV A.data.toList = gV s := by unfold gV; rw [hc]
  have en : piV B.data.toList = nV s := by unfold nV; rw [hc]
  rw [eg] at K3
  rw [en] at K4
  have K3 := Lib.hid K3
  have K4 := Lib.hid K4
  have hN := fun w h => name_any (gV s) (nV s) w h
  generalize gV s = g at *
  generalize nV s = n at *
  generalize tS s = T at *
  have HL := Lib.hid h
  rcases hn with ⟨h1, rfl, rfl, h4⟩ | ⟨h1, h4⟩
  · rw [h4] at hN
    have KN := Lib.hid hN
    have HV := Lib.hid (show ndV s = .tuple #[.int .i64 (ndG s.data.toList : Nat), .int .i64 (ndF s.data.toList : Nat), .bool true] from if_pos h1)
    clear hN hc eg en h h1 h4 hts hcs
    generalize ndG s.data.toList = g at *
    generalize ndF s.data.toList = n at *
    go_enter Tryz.func13, Tryz.ntmps13
    go_wp2_with fail
    refine (K1.out _).mono ?_
    rintro e w1 ⟨rfl, rfl⟩
    go_wp2_with fail
    refine (K2.out _).mono ?_
    rintro e w2 ⟨rfl, hb⟩
    have HB2 := Lib.hid hb
    clear hb
    go_wp2_with fail
    refine (K3.out _ (HL.out.keep HB2.out)).mono ?_
    rintro e w3 ⟨x, rfl, hb⟩
    have HB3 := Lib.hid (bel_trans HB2.out hb)
    clear hb
    go_wp2_with fail
    refine (K4.out _ (HL.out.keep HB3.out)).mono ?_
    rintro e w4 ⟨y, rfl, hb⟩
    have HB4 := Lib.hid (bel_trans HB3.out hb)
    clear hb
    go_wp2_with fail
    refine (KN.out _ (HL.out.keep HB4.out).pow).mono ?_
    rintro e w5 ⟨rfl, hb⟩
    have HB5 := Lib.hid (bel_trans HB4.out hb)
    clear hb
    go_wp2_with fail
    go_ret3
    exact ⟨by rw [HV.out]; rfl, HB5.out⟩
  · have HV := Lib.hid (show ndV s = .tuple #[.int .i64 0, .int .i64 0, .bool false] from if_neg (by rw [h1]; exact Bool.false_ne_true))
    obtain ⟨y, ey⟩ : ∃ y, nmS g n = y := ⟨_, rfl⟩
    rw [ey] at hN h4
    have KN := Lib.hid hN
    have hne : (y.toList == s.toList) = false := by
      rw [beq_eq_false_iff_ne, ByteArray.toList_eq, ByteArray.toList_eq]
      exact fun e => h4 (ba_ext e)
    clear hN hc eg en h h1 h4 hts hcs ey
    go_enter Tryz.func13, Tryz.ntmps13
    go_wp2_with fail
    refine (K1.out _).mono ?_
    rintro e w1 ⟨rfl, rfl⟩
    go_wp2_with fail
    refine (K2.out _).mono ?_
    rintro e w2 ⟨rfl, hb⟩
    have HB2 := Lib.hid hb
    clear hb
    go_wp2_with fail
    refine (K3.out _ (HL.out.keep HB2.out)).mono ?_
    rintro e w3 ⟨x, rfl, hb⟩
    have HB3 := Lib.hid (bel_trans HB2.out hb)
    clear hb
    go_wp2_with fail
    refine (K4.out _ (HL.out.keep HB3.out)).mono ?_
    rintro e w4 ⟨z, rfl, hb⟩
    have HB4 := Lib.hid (bel_trans HB3.out hb)
    clear hb
    go_wp2_with fail
    refine (KN.out _ (HL.out.keep HB4.out).pow).mono ?_
    rintro e w5 ⟨rfl, hb⟩
    have HB5 := Lib.hid (bel_trans HB4.out hb)
    clear hb
    go_wp2_with fail
    go_ret3
    exact ⟨by rw [HV.out]; rfl, HB5.out⟩
end Go.Proofs.YtaonjbkkgeiniaaGreatDoor
