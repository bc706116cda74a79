/- souklaw11.awake. -/
import Derived.Test.YtaonjbkkgeiniaaGreatDoorSgW0
namespace Go.Proofs.YtaonjbkkgeiniaaGreatDoor
open Go.RowKit Go.Shelf

def z2 : List ByteArray := [⟨#[97]⟩, ⟨#[98, 99]⟩]
def l2 : List (List UInt8) := [[97], [98, 99]]
theorem pays_z2 : paysL z2 = l2 := rfl
theorem jn2 : jnE 5 l2 = 0 := by decide
theorem ok2 : okF ((5 : Nat) : Int) l2 := (jn_ok jn2).2.2.2.2
def J2 : ByteArray := bs (jnL 5 l2)
theorem j2_eq : jnL 5 l2 = hdrL 5 ++ joinF ((5 : Nat) : Int) l2 := (seg_scan jn2).1
theorem j2_size : J2.size = 51 := by unfold J2; rw [size_bs, (seg_scan jn2).2.1]; rfl
theorem j2_scan : ScanIs (J2.extract 0 50).data.toList 5 [[97]] := by
  have h := seg_cut 5 (by omega) l2 ok2 50 (by omega)
  have e1 : l2.take (wholeF 16 l2 50) = [[97]] := by decide
  rw [e1, ← j2_eq] at h
  have e2 : (J2.extract 0 50).data.toList = (jnL 5 l2).take 50 := by
    unfold J2
    simp [bs]
  rw [e2]
  exact h
def H0 : ByteArray := bs (hdrL 0)
theorem h0_size : H0.size = 16 := by unfold H0; rw [size_bs, hdr_len]
theorem h0_front : (H0.extract 0 12).toList = [115, 101, 103, 49, 0, 0, 0, 0, 0, 0, 0, 0] := by
  rw [ByteArray.toList_eq, ByteArray.data_extract, Array.toList_extract]
  unfold H0
  rw [bs_data]
  unfold hdrL sealL
  rw [show (magicL ++ be8 0) = [115, 101, 103, 49, 0, 0, 0, 0, 0, 0, 0, 0] by decide]
  rfl
def s20 : ByteArray := ⟨#[49, 50, 51, 52, 53, 54, 55, 56, 57, 48, 49, 50, 51, 52, 53, 54, 55, 56, 57, 48]⟩
def zT : List ByteArray := List.replicate 10 s20
theorem zT_len : paysL zT = List.replicate 10 s20.data.toList := rfl
theorem spT_E : spE 0 zT 100 = 0 := by
  unfold spE
  rw [if_neg (by omega)]
  unfold wrE
  rw [if_neg, if_neg]
  · show ¬ (1048576 : Int) < 0 + ((10 : Nat) : Int); omega
  · rintro ⟨p, hp, hn⟩
    unfold zT at hp
    rw [List.eq_of_mem_replicate hp] at hn
    exact hn (by decide)
theorem spT_len : (spO 0 zT 100).length = 5 := by
  unfold spO
  rw [if_pos spT_E]
  unfold spB
  rw [List.length_map, spL_count]
  decide
def nm17 : ByteArray := ⟨#[115, 48, 48, 48, 48, 48, 48, 48, 51, 45, 48, 48, 48, 48, 48, 48, 48, 48, 49, 55]⟩
theorem nm17_nd : ndV nm17 = .tuple #[.int .i64 3, .int .i64 17, .bool true] := by
  unfold ndV
  rw [if_pos (by decide)]
  have e1 : ndG nm17.data.toList = 3 := by decide
  have e2 : ndF nm17.data.toList = 17 := by decide
  rw [e1, e2]
  rfl
theorem nm17_name : nmS 3 17 = nm17 := by
  unfold nmS
  rw [if_pos (by omega)]
  decide
theorem kName (w : World) (h : Laid w) : Calls Tryz.prog 19 #[.int .i64 3, .int .i64 17] w fun e w' => e = .returned (.string ⟨#[115, 48, 48, 48, 48, 48, 48, 48, 51, 45, 48, 48, 48, 48, 48, 48, 48, 48, 49, 55]⟩) ∧ Below w.heap.size w w' := by
  have := name_any 3 17 w h.pow
  rw [nm17_name] at this
  exact this
theorem kNamed (w : World) (h : Laid w) : Calls Tryz.prog 13 #[.string ⟨#[115, 48, 48, 48, 48, 48, 48, 48, 51, 45, 48, 48, 48, 48, 48, 48, 48, 48, 49, 55]⟩] w fun e w' => e = .returned (.tuple #[.int .i64 3, .int .i64 17, .bool true]) ∧ Below w.heap.size w w' := by
  have := named_any nm17 (by decide) w h
  rw [nm17_nd] at this
  exact this
theorem kHeader (w : World) : Calls Tryz.prog 14 #[.int .i64 0] w fun e w' => e = .returned (.tuple #[.string H0, .int .i64 0]) ∧ Below w.heap.size w w' := by
  have := Header_any 0 w
  rw [if_pos (by omega)] at this
  exact this
theorem kJoin (w : World) : Calls Tryz.prog 16 #[.int .i64 5, .slice (some ⟨w.heap.size, 0, none⟩) 2 2] (w.alloc (.cells #[.string ⟨#[97]⟩, .string ⟨#[98, 99]⟩] 9)) fun e w' => e = .returned (.tuple #[.string J2, .int .i64 0]) ∧ Below w.heap.size w w' := by
  have hz : StrsIn (w.alloc (.cells #[.string ⟨#[97]⟩, .string ⟨#[98, 99]⟩] 9)) (some ⟨w.heap.size, 0, none⟩) 2 2 z2 := by
    refine ⟨rfl, Nat.le_refl _, by decide, ?_, .inr ⟨_, 0, rfl, by simp, fun j hj => ?_⟩⟩
    · intro s hs
      unfold z2 at hs
      rcases List.mem_cons.1 hs with rfl | hs
      · decide
      · rw [List.mem_singleton.1 hs]; decide
    · rw [Nat.zero_add, World.cell?_alloc_new]
      match j, hj with
      | 0, _ => rfl
      | 1, _ => rfl
  have := join_any 5 z2 _ hz
  rw [pays_z2, jn2] at this
  exact this.mono fun e w' ⟨he, hb⟩ => ⟨he, bel_trans ((Below.refl _ _).alloc (Nat.le_refl _) _) hb⟩
theorem kFit (a b c : Int) (v : Bool) (h : fitB a b c = v) (ha : 0 ≤ a ∧ a ≤ 100000) (hc : 0 ≤ c ∧ c ≤ 100000) (w : World) : Calls Tryz.prog 20 #[.int .i64 a, .int .i64 b, .int .i64 c] w fun e w' => e = .returned (.bool v) ∧ w' = w := by
  have := fits_any a b c (by omega) (by omega) w
  rw [h] at this
  exact this
theorem kScan (w : World) : Calls Tryz.prog 26 #[.string (J2.extract 0 50)] w fun e w' => ∃ g cap, e = .returned (.tuple #[.agg #[.int .i64 5, .slice (some ⟨g, 0, none⟩) 1 cap, .int .i64 33, .bool false], .int .i64 0]) ∧
    w'.cell? ⟨g, 1, none⟩ = some (.string ⟨#[97]⟩) ∧ Below w.heap.size w w' := by
  have hJx : (J2.extract 0 50).size = 50 := by rw [ByteArray.size_extract, j2_size]; rfl
  refine (scan_is (J2.extract 0 50) 5 [[97]] j2_scan (by omega) w).mono ?_
  rintro e w' ⟨oa, cap, rfl, ho, hb⟩
  rcases ho.2 with ⟨_, h⟩ | ⟨g, c, cur, hv, h3, h4, h5, h6, h7, h8⟩
  · cases h
  · obtain ⟨rfl, _, rfl⟩ := Value.slice.inj hv
    refine ⟨g, cap, ?_, ?_, hb⟩
    · rw [hJx]; rfl
    · rw [cell_of_row _ _ _ _ _ _ h4]
      have h9 : cur.toList.take 3 = rowF ((5 : Nat) : Int) 16 [[97]] := h8
      have : (cur.toList.take 3)[1]? = some (.string ⟨#[97]⟩) := by rw [h9]; rfl
      rw [List.getElem?_take, if_pos (by decide), Array.getElem?_toList] at this
      exact this
theorem kSplit (ot : Option Addr) (ct : Nat) (w : World) (h : StrsIn w ot 10 ct zT) : Calls Tryz.prog 17 #[.int .i64 0, .slice ot 10 ct, .int .i64 100] w fun e w' => ∃ oa' cap', e = .returned (.tuple #[.slice oa' 5 cap', .int .i64 0]) ∧ Below w.heap.size w w' := by
  refine (split_any 0 100 zT w h (by omega)).mono ?_
  rintro e w' ⟨oa', cap', rfl, _, hb⟩
  rw [spT_len, spT_E]
  exact ⟨oa', cap', rfl, hb⟩
set_option maxRecDepth 20000 in
set_option maxHeartbeats 8000000 in
theorem awake_any (w : World) (h : Laid w) : Calls Tryz.prog 12 #[] w fun e w' => e = .returned (.bool true) ∧ Below w.heap.size w w' := by
  have HL := Lib.hid h
  clear h
  have hJs := j2_size
  have hHs := h0_size
  have hHf := h0_front
  have KH := Lib.hid kHeader
  have KS := Lib.hid kScan
  have KJ := Lib.hid kJoin
  generalize J2 = J at *
  generalize H0 = H at *
  go_enter Tryz.func12, Tryz.ntmps12
  go_wp2_with fail
  refine (KH.out _).mono ?_
  rintro e w1 ⟨rfl, hb⟩
  have HB1 := Lib.hid hb
  clear hb
  go_wp2_with fail
  refine (kNamed _ (HL.out.keep HB1.out)).mono ?_
  rintro e w2 ⟨rfl, hb⟩
  have HB2 := Lib.hid (bel_trans HB1.out hb)
  clear hb
  go_wp2_with fail
  refine (KJ.out _).mono ?_
  rintro e w3 ⟨rfl, hb⟩
  have HB3 := Lib.hid (bel_trans HB2.out hb)
  clear hb
  go_wp2_with fail
  refine (kName _ (HL.out.keep HB3.out)).mono ?_
  rintro e w4 ⟨rfl, hb⟩
  have HB4 := Lib.hid (bel_trans HB3.out hb)
  clear hb
  go_wp2_with fail
  refine (KS.out _).mono ?_
  rintro e w5 ⟨g, cap, rfl, hgc, hb⟩
  have HB5 := Lib.hid (bel_trans HB4.out hb)
  have HGC := Lib.hid hgc
  have hgl := cell_lt hgc
  clear hb hgc
  go_wp2_with fail
  obtain ⟨W6, eW⟩ : ∃ W6, w5.alloc (.cells #[.int .i64 5, .slice (some ⟨g, 0, none⟩) 1 cap, .int .i64 33, .bool false] 46) = W6 := ⟨_, rfl⟩
  have hx6 : W6.heap[w5.heap.size]? = some (.cells #[.int .i64 5, .slice (some ⟨g, 0, none⟩) 1 cap, .int .i64 33, .bool false] 46) := by rw [← eW]; exact heap_alloc_new _ _
  have hg6 : W6.cell? ⟨g, 1, none⟩ = some (.string ⟨#[97]⟩) := by
    rw [← eW]
    exact (World.cell?_of_block (Below.heap_alloc _ _ _ hgl)).trans HGC.out
  have hb6 : Below w.heap.size w W6 := by rw [← eW]; exact HB5.out.alloc HB5.out.size _
  rw [eW]
  have HX6 := Lib.hid hx6
  have HG6 := Lib.hid hg6
  have HB6 := Lib.hid hb6
  clear eW hx6 hg6 hb6 HB5 HGC hgl HB4 HB3 HB2 HB1
  obtain ⟨i0, hi, hz0, hz1, hz2⟩ := info_parts infoS
  have HI := Lib.hid (⟨hi, hz0, hz1, hz2⟩ : Tryz.prog.info? 9 = some i0 ∧ i0.zero = some (Value.string ⟨#[]⟩) ∧ i0.size = 1 ∧ i0.bytes = 16)
  clear hi hz0 hz1 hz2
  generalize w5.heap.size = X at *
  go_loopw [10, 11] (fun vv iv wr => ∃ k : Nat, k ≤ 10 ∧ iv = .int .i64 k ∧ wr.ownsRow W6.heap.size 9 1 vv k (stRow (List.replicate k s20)) ∧ Below W6.heap.size W6 wr) (fun _ iv _ => 10 - (intOf iv).toNat)
  case atStart => exact ⟨0, by omega, rfl, World.ownsRow_nil _ _ _ _, Below.refl _ _⟩
  case round =>
    obtain ⟨k, hk, rfl, ho, hb⟩ := hrel
    have HO := Lib.hid ho
    have HB := Lib.hid hb
    clear ho hb
    by_cases hin : k < 10
    · have d1 : decide ((k : Int) < 10) = true := decide_eq_true (by omega)
      go_wp2_with (at_builtin; refine wpList_append_own _ rfl _ _ 23 rfl W6.heap.size 9 i0 (.string ⟨#[]⟩) 1 16 Tryz.underlying23 HI.out.1 HI.out.2.1 HI.out.2.2.1 HI.out.2.2.2 rfl (by decide) _ _ _ rfl (HO.out.alloc _) ⟨wr.heap.size, 0, none⟩ 1 1 [.string s20] rfl rfl (cell_one_new _ _ _) (by simp [Value.oneCell']) (by unfold maxLen; omega) (by omega) (by have := HB.out.size; simp; omega) ?_)
      intro v' w7 hown hgrow _
      have hrow : stRow (List.replicate k s20) ++ [.string s20] = stRow (List.replicate (k + 1) s20) := by unfold stRow; rw [List.replicate_succ']; simp
      rw [hrow] at hown
      have hb7 : Below W6.heap.size W6 w7 := (HB.out.alloc HB.out.size _).grown hgrow (by have := HB.out.size; simp; omega) (fun j hj => (HO.out.lt j hj).1)
      have HO7 := Lib.hid hown
      have HB7 := Lib.hid hb7
      clear hown hgrow hb7 hrow
      go_wp2_with fail
      go_roundw
      case rel => exact ⟨k + 1, by omega, by go_num, HO7.out, HB7.out⟩
      case measure => simp [intOf]; omega
    · obtain rfl : k = 10 := by omega
      have d1 : decide ((10 : Int) < 10) = false := by decide
      obtain ⟨ot, ct, rfl, ht⟩ := strs_of_own HO.out (by omega) (fun s hs => by rw [List.eq_of_mem_replicate hs]; decide)
      have HTT := Lib.hid (show ∀ w', Below wr.heap.size wr w' → StrsIn w' ot 10 ct zT from fun w' hb => strs_keep ht hb)
      have HB8 := Lib.hid (bel_trans HB6.out HB.out)
      have hx8 := Lib.hid ((HB.out.block _ (Array.getElem?_eq_some_iff.1 HX6.out).1).trans HX6.out)
      have hg8 := Lib.hid ((HB.out.cell (p := ⟨g, 1, none⟩) (cell_lt HG6.out)).trans HG6.out)
      clear ht HO HB HX6 HG6 HB6 hin hk
      go_wp2_with fail
      refine (kSplit ot ct _ (HTT.out _ (Below.refl _ _))).mono ?_
      rintro e w9 ⟨oa', cap', rfl, hb⟩
      have HB9 := Lib.hid (bel_trans HB8.out hb)
      have hx9 := (hb.block _ (Array.getElem?_eq_some_iff.1 hx8.out).1).trans hx8.out
      have g9 := (hb.cell (p := ⟨g, 1, none⟩) (cell_lt hg8.out)).trans hg8.out
      have q0 : w9.cell? ⟨X, 0, none⟩ = some (.int .i64 5) := by rw [cell_of_row _ _ _ _ _ _ hx9]; rfl
      have q1 : w9.cell? ⟨X, 1, none⟩ = some (.slice (some ⟨g, 0, none⟩) 1 cap) := by rw [cell_of_row _ _ _ _ _ _ hx9]; rfl
      have q2 : w9.cell? ⟨X, 2, none⟩ = some (.int .i64 33) := by rw [cell_of_row _ _ _ _ _ _ hx9]; rfl
      have q3 : w9.cell? ⟨X, 3, none⟩ = some (.bool false) := by rw [cell_of_row _ _ _ _ _ _ hx9]; rfl
      clear hb hx9 hx8 hg8 HTT HB8
      go_wp2_with fail
      refine (next_any 5 (some ⟨g, 0, none⟩) 1 cap 33 false _ (by omega) (by omega)).mono ?_
      rintro e w10 ⟨rfl, hb⟩
      have HB10 := Lib.hid (bel_trans HB9.out hb)
      clear hb
      go_wp2_with fail
      refine (kFit 16 4096 64 true (by decide) (by omega) (by omega) _).mono ?_
      rintro e w11 ⟨rfl, rfl⟩
      go_wp2_with fail
      refine (kFit 33 16 64 false (by decide) (by omega) (by omega) _).mono ?_
      rintro e w12 ⟨rfl, rfl⟩
      go_wp2_with fail
      refine (kFit 32 16 64 true (by decide) (by omega) (by omega) _).mono ?_
      rintro e w13 ⟨rfl, rfl⟩
      go_wp2_with fail
      go_ret
      exact ⟨rfl, HB10.out⟩
end Go.Proofs.YtaonjbkkgeiniaaGreatDoor
