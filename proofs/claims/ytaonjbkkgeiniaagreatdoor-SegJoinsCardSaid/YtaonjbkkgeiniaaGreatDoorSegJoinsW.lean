/- souklaw11.SegJoins: its walk. -/
import Derived.Test.YtaonjbkkgeiniaaGreatDoorSgJs
import Derived.Test.YtaonjbkkgeiniaaGreatDoorSgG
namespace Go.Proofs.YtaonjbkkgeiniaaGreatDoor
open Go.RowKit

theorem spO_small (f most : Int) (z : List ByteArray) (hs : sumZ z ≤ 20000) : (∀ s ∈ spO f z most, s.size ≤ 400000) ∧ (spO f z most).length ≤ 20001 := by
  by_cases hE : spE f z most = 0
  · obtain ⟨g, gs, out, rfl, _, hm, hO, hol, _, _, hseg, _⟩ := split_tells f most z hE hs
    rw [hO]
    refine ⟨fun s h => ?_, ?_⟩
    · obtain ⟨i, hi, rfl⟩ := List.getElem_of_mem h
      have := (hseg i (by rw [← hol]; exact hi)).2.1
      rw [List.getD_eq_getElem?_getD, List.getElem?_eq_getElem hi] at this
      exact this
    · rw [← hO]
      unfold spO spB
      rw [if_pos hE, List.length_map]
      have h1 := (spL_len most.toNat (g : Int).toNat (paysL z)).2
      rw [pays_len] at h1
      have h2 := sumZ_len z
      omega
  · have : spO f z most = [] := by unfold spO; rw [if_neg hE]
    rw [this]
    exact ⟨(fun s h => by cases h), by decide⟩

set_option maxRecDepth 100000 in
set_option maxHeartbeats 8000000 in
theorem joins_any (f : Int) (oa : Option Addr) (len cap : Nat) (z : List ByteArray) (most : Int) (w : World) (hz : StrsIn w oa len cap z) (hmo : -9223372036854775808 ≤ most ∧ most ≤ 9223372036854775807) (h : Laid w) :
    Calls Tryz.prog 6 #[.int .i64 f, .slice oa len cap, .int .i64 most] w fun r w' => r = .returned (.bool true) ∧ Below w.heap.size w w' := by
  have HL := Lib.hid h
  have HZ := Lib.hid hz
  clear h hz
  have hsp := fun W (oa : Option Addr) (cap : Nat) (hW : StrsIn W oa len cap z) => split_any f most z W hW hmo
  have hrs := fun W (hs : sumZ z ≤ 20000) (hW : StrsIn W oa len cap z) => rsplit_any f most z W hW hmo hs
  have hj := fun W (oa : Option Addr) (cap : Nat) (hW : StrsIn W oa len cap z) => join_any f z W hW
  have hrj := fun W (hs : sumZ z ≤ 20000) (hW : StrsIn W oa len cap z) => rjoin_any f z W hW hs
  have hsm := spO_small f most z
  unfold spPost at hsp hrs
  obtain ⟨X, hX⟩ : ∃ X, spO f z most = X := ⟨_, rfl⟩
  obtain ⟨E, hE⟩ : ∃ E, spE f z most = E := ⟨_, rfl⟩
  obtain ⟨n, hn⟩ : ∃ n, X.length = n := ⟨_, rfl⟩
  obtain ⟨A, hA⟩ : ∃ A, bs (jnL f (paysL z)) = A := ⟨_, rfl⟩
  obtain ⟨J, hJ⟩ : ∃ J, jnE f (paysL z) = J := ⟨_, rfl⟩
  rw [hX] at hsm
  rw [hX, hE, hn] at hsp hrs
  rw [hA, hJ] at hj hrj
  have HSP := Lib.hid hsp
  have HRS := Lib.hid hrs
  have HJ := Lib.hid hj
  have HRJ := Lib.hid hrj
  have HSS := Lib.hid hsm
  have HN := Lib.hid hn
  clear hsp hrs hj hrj hsm hX hE hn hA hJ
  go_enter Tryz.func6, Tryz.ntmps6
  go_wp2_with fail
  refine (many_any _ _ _ z _ HZ.out).mono ?_
  rintro r w0 ⟨b, rfl, rfl, hsum⟩
  cases b with
  | true =>
    clear hsum
    go_wp2_with fail
    refine (awake_any _ HL.out).mono ?_
    rintro r w9 ⟨rfl, hb9⟩
    have HB9 := Lib.hid hb9
    clear hb9
    go_wp2_with fail
    go_ret
    exact ⟨rfl, HB9.out⟩
  | false =>
    have HSM := Lib.hid (hsum rfl)
    clear hsum
    have hln : len ≤ 20000 := by have := sumZ_len z; have := HSM.out; have := HZ.out.1; omega
    have hsz : ∀ s ∈ z, s.size ≤ 1000000 := fun s hs => by have := sumZ_mem hs; have := HSM.out; omega
    have hbe : Below w.heap.size w (w.alloc (.cells #[] 9)) := (Below.refl _ _).alloc (Nat.le_refl _) _
    obtain ⟨v1, W1, r1, n1, g1⟩ := append_strs (w.alloc (.cells #[] 9)) w.heap.size 23 _ 0 _ (own_empty_s w) oa len cap z (strs_keep HZ.out hbe) (by omega) hbe.size
    have b1 : Below w.heap.size w W1 := hbe.grown g1 hbe.size (fun k hk => ((own_empty_s w).lt k hk).1)
    rw [show stRow [] ++ stRow z = stRow z from rfl, Nat.zero_add] at n1
    obtain ⟨o3, c3, rfl, hi⟩ := strs_of_own n1 (by omega) hsz
    have R1 := Lib.hid r1
    have HB1 := Lib.hid b1
    have HI := Lib.hid hi
    have HO := Lib.hid n1
    obtain ⟨hXs, hnl⟩ := HSS.out HSM.out
    rw [HN.out] at hnl
    have HXS := Lib.hid hXs
    clear hbe r1 n1 g1 b1 hi hsz hXs
    go_wp2_with (at_builtin; refine list_append_run rfl (.tmp 20) (.tmp 21) 23 rfl _ _ _ _ rfl rfl R1.out ?_)
    refine (HJ.out _ _ _ HI.out).mono ?_
    rintro r w2 ⟨rfl, hb⟩
    have HI2 := Lib.hid (strs_keep HI.out hb)
    have HO2 := Lib.hid (ownsRow_below HO.out hb)
    have HB2 := Lib.hid (bel_trans HB1.out hb)
    clear hb R1 HB1 HI HO
    go_wp2_with fail
    refine (HRJ.out _ HSM.out (strs_keep HZ.out HB2.out)).mono ?_
    rintro r w3 ⟨rfl, hb⟩
    have HI3 := Lib.hid (strs_keep HI2.out hb)
    have HO3 := Lib.hid (ownsRow_below HO2.out hb)
    have HB3 := Lib.hid (bel_trans HB2.out hb)
    clear hb HI2 HO2 HB2
    go_wp2_with fail
    refine (HRS.out _ HSM.out (strs_keep HZ.out HB3.out)).mono ?_
    rintro r w4 ⟨oq, cq, rfl, ho, hb⟩
    have HI4 := Lib.hid (strs_keep HI3.out hb)
    have HO4 := Lib.hid (ownsRow_below HO3.out hb)
    have HB4 := Lib.hid (bel_trans HB3.out hb)
    obtain ⟨oq', cq', e', hst⟩ := strs_of_own ho (by omega) (fun s hs => by have := HXS.out s hs; omega)
    cases e'
    have HW := Lib.hid hst
    clear ho hb HI3 HO3 HB3 hst
    go_wp2_with fail
    go_loopw [14] (fun iv wr => ∃ k : Nat, k ≤ 2 ∧ iv = .int .i64 k ∧ Below w4.heap.size w4 wr) (fun iv _ => 2 - (intOf iv).toNat)
    case atStart => exact ⟨0, by omega, rfl, Below.refl _ _⟩
    case round =>
      obtain ⟨k, hk, rfl, hbw⟩ := hrel
      have HBW := Lib.hid hbw
      clear hbw
      by_cases hlt : k < 2
      · have d0 : decide ((k : Int) < 2) = true := decide_eq_true (by omega)
        go_wp2_with fail
        refine (HSP.out _ _ _ (strs_keep HI4.out HBW.out)).mono ?_
        rintro r w5 ⟨ox, cx, rfl, ho, hb⟩
        have HO5 := Lib.hid ho
        have HB5 := Lib.hid (bel_trans HBW.out hb)
        clear ho hb
        go_wp2_with fail
        refine (texts_any n ox oq cx cq X w4 _ _ HO5.out HBW.out.size HW.out HB5.out).mono ?_
        rintro r w6 ⟨rfl, hb, _⟩
        have HB6 := Lib.hid hb
        clear hb
        go_wp2_with fail
        go_roundw
        case rel => exact ⟨k + 1, by omega, by go_num, HB6.out⟩
        case measure => simp [intOf]; omega
      · obtain rfl : k = 2 := by omega
        clear hlt
        go_wp2_with fail
        refine (texts_any len o3 oa c3 cap z w _ _ (ownsRow_below HO4.out HBW.out) (Nat.le_refl _) HZ.out (HB4.out.trans (HBW.out.mono HB4.out.size))).mono ?_
        rintro r w7 ⟨rfl, hb, _⟩
        have HB7 := Lib.hid hb
        clear hb
        go_wp2_with fail
        refine (awake_any _ (HL.out.keep HB7.out)).mono ?_
        rintro r w8 ⟨rfl, hb⟩
        have HB8 := Lib.hid (bel_trans HB7.out hb)
        clear hb
        go_wp2_with fail
        go_ret
        exact ⟨rfl, HB8.out⟩
theorem joins_law (f : Int) (oa : Option Addr) (len cap : Nat) (z : List ByteArray) (most : Int) (w : World) (hz : StrsIn w oa len cap z) (hmo : (Lit.int .i64 most).wf = true) (h : Laid w) :
    Calls Tryz.prog 6 #[.int .i64 f, .slice oa len cap, .int .i64 most] w fun r w' => r = .returned (.bool true) ∧ Below w.heap.size w w' :=
  joins_any f oa len cap z most w hz (by simp [Lit.wf, IntKind.min, IntKind.max, IntKind.signed, IntKind.bits] at hmo; omega) h
end Go.Proofs.YtaonjbkkgeiniaaGreatDoor
