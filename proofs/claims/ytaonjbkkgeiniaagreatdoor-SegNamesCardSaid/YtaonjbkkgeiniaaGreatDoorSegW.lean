/- Walks over package seg: number, header, Header, First. -/
import Derived.Test.YtaonjbkkgeiniaaGreatDoorB3
import Derived.BigQuiet
import Derived.Deep.QuietTactic
namespace Go.Proofs.YtaonjbkkgeiniaaGreatDoor
open Go.RowKit

def magicB : ByteArray := ⟨#[115, 101, 103, 49]⟩
set_option maxHeartbeats 400000 in
theorem number_any' (n : Int) (w : World) :
    Calls Tryz.prog 40 #[.int .i64 n] w fun e w' => e = .returned (.bool (decide (0 ≤ n ∧ n ≤ 1048576))) ∧ w = w' := by
  by_cases h1 : 0 ≤ n
  · have d1 : decide (0 ≤ n) = true := decide_eq_true h1
    have e : decide (0 ≤ n ∧ n ≤ 1048576) = decide (n ≤ 1048576) := by simp [h1]
    rw [e]
    go_enter Tryz.func40, Tryz.ntmps40
    go_wp2_with fail
    go_ret
    exact ⟨rfl, rfl⟩
  · have d1 : decide (0 ≤ n) = false := decide_eq_false h1
    have e : decide (0 ≤ n ∧ n ≤ 1048576) = false := decide_eq_false (fun h => h1 h.1)
    rw [e]
    go_enter Tryz.func40, Tryz.ntmps40
    go_wp2_with fail
    go_ret
    exact ⟨rfl, rfl⟩

set_option maxHeartbeats 1000000 in
theorem header_any (n : Nat) (w : World) (hn : n < 18446744073709551616) :
    Calls Tryz.prog 41 #[.int .i64 n] w fun e w' => e = .returned (.string (bs (hdrL n))) ∧ Below w.heap.size w w' := by
  have C2 : ((n : Int) % 18446744073709551616) = n := by omega
  have hw0 := wrt_new w
  have E0 := Lib.hid (show hdrL n = sealL (magicL ++ be8 n) from rfl)
  go_enter Tryz.func41, Tryz.ntmps41
  go_wp2_with fail
  obtain ⟨w0, ew0⟩ : ∃ x, w.alloc (.cells #[.slice none 0 0] 99) = x := ⟨_, rfl⟩
  have hb0 : Below w.heap.size w w0 := by rw [← ew0]; exact (Below.refl _ _).alloc (Nat.le_refl _) _
  rw [ew0] at hw0 ⊢
  clear ew0
  obtain ⟨b, hb⟩ : ∃ x, w.heap.size = x := ⟨_, rfl⟩
  rw [hb] at hw0 hb0 ⊢
  refine (wRaw b [] ⟨#[115, 101, 103, 49]⟩ w0 (by show 0 + 4 ≤ _; omega) hw0).mono ?_
  rintro e w1 ⟨rfl, hw1, hb1⟩
  have B1 := Lib.hid (hb0.trans hb1)
  clear hw0 hb0 hb1
  rw [show [] ++ (ByteArray.mk #[115, 101, 103, 49]).data.toList = magicL from rfl] at hw1
  go_wp2_with fail
  refine (wU64 b _ n w1 (by omega) (by show 4 ≤ _; omega) hw1).mono ?_
  rintro e w2 ⟨rfl, hw2, hb2⟩
  have B2 := Lib.hid (B1.out.trans hb2)
  clear hw1 hb2 B1
  go_wp2_with fail
  refine (wBytes b _ w2 hw2).mono ?_
  rintro e w' ⟨rfl, rfl⟩
  have HS := Lib.hid (seal_to (bs (magicL ++ be8 n)) (bs (hdrL n)) w2 (by rw [size_bs]; show 12 ≤ _; omega) (by rw [bs_data]; rfl))
  have hlt := Lib.hid hw2
  clear hw2
  go_wp2_with fail
  refine HS.out.mono ?_
  rintro e w3 ⟨rfl, hb3⟩
  have B3 := Lib.hid (B2.out.trans (hb3.mono (by obtain ⟨oa, cap, h⟩ := hlt.out; have := h.lt; omega)))
  go_wp2_with fail
  go_ret
  subst hb
  exact ⟨rfl, B3.out⟩

theorem Header_any (n : Int) (w : World) :
    Calls Tryz.prog 14 #[.int .i64 n] w fun e w' => e = .returned (if 0 ≤ n ∧ n ≤ 1048576 then .tuple #[.string (bs (hdrL n.toNat)), .int .i64 0] else .tuple #[.string ⟨#[]⟩, .int .i64 1]) ∧ Below w.heap.size w w' := by
  by_cases h : 0 ≤ n ∧ n ≤ 1048576
  · rw [if_pos h]
    have h1 := number_any' n w
    rw [decide_eq_true h] at h1
    obtain ⟨m, rfl⟩ : ∃ m : Nat, n = m := ⟨n.toNat, by omega⟩
    rw [Int.toNat_natCast]
    have H := Lib.hid (header_any m w (by omega))
    have H1 := Lib.hid h1
    clear h1
    go_enter Tryz.func14, Tryz.ntmps14
    go_wp2_with fail
    refine H1.out.mono ?_
    rintro e w1 ⟨rfl, rfl⟩
    go_wp2_with fail
    refine H.out.mono ?_
    rintro e w1 ⟨rfl, hb1⟩
    go_wp2_with fail
    go_ret2
    exact ⟨rfl, hb1⟩
  · rw [if_neg h]
    have h1 := number_any' n w
    rw [decide_eq_false h] at h1
    have H1 := Lib.hid h1
    clear h1
    go_enter Tryz.func14, Tryz.ntmps14
    go_wp2_with fail
    refine H1.out.mono ?_
    rintro e w1 ⟨rfl, rfl⟩
    go_wp2_with fail
    go_ret2
    exact ⟨rfl, Below.refl _ _⟩

set_option maxHeartbeats 400000 in
theorem prefix0 (s : ByteArray) (c : Bool) (w : World) (h : 4 ≤ s.size) (hc : ((s.extract 0 4).toList == [115, 101, 103, 49]) = c) :
    Calls Tryz.prog 73 #[.string s, .string ⟨#[115, 101, 103, 49]⟩] w fun e w' => e = .returned (.bool c) ∧ w = w' := by
  have d1 : decide ((4 : Int) ≤ (s.size : Int)) = true := decide_eq_true (by omega)
  go_enter Tryz.func73, Tryz.ntmps73
  go_wp2_with fail
  go_ret
  exact ⟨rfl, rfl⟩
theorem prefix_any (s : ByteArray) (c : Bool) (w : World) (h : 4 ≤ s.size) (hc : ((s.extract 0 4).toList == [115, 101, 103, 49]) = c) :
    Calls Tryz.prog 42 #[.string s, .string ⟨#[115, 101, 103, 49]⟩] w fun e w' => e = .returned (.bool c) ∧ w = w' := by
  have H := Lib.hid (prefix0 s c w h hc)
  clear hc
  go_enter Tryz.func42, Tryz.ntmps42
  go_wp2_with fail
  refine H.out.mono ?_
  rintro e w1 ⟨rfl, rfl⟩
  go_wp2_with fail
  go_ret
  exact ⟨rfl, rfl⟩
theorem prefix_iff (s : ByteArray) (_ : 4 ≤ s.size) : ((s.extract 0 4).toList == [115, 101, 103, 49]) = decide (s.data.toList.take 4 = magicL) := by
  have e : (s.extract 0 4).toList = s.data.toList.take 4 := by rw [ByteArray.toList_eq]; simp
  rw [e, Bool.eq_iff_iff, beq_iff_eq, decide_eq_true_iff]; rfl

/-- what First tells -/
def hdV (l : List UInt8) : Value := if hdE l = 0 then .tuple #[.int .i64 (hdF l), .int .i64 0] else .tuple #[.int .i64 0, .int .i64 (hdE l)]

set_option maxHeartbeats 1000000 in
theorem first_short (s : ByteArray) (w : World) (h : s.size < 16) :
    Calls Tryz.prog 15 #[.string s] w fun e w' => e = .returned (.tuple #[.int .i64 0, .int .i64 8]) ∧ Below w.heap.size w w' := by
  have d1 : decide ((s.size : Int) < 16) = true := decide_eq_true (by omega)
  go_enter Tryz.func15, Tryz.ntmps15
  go_wp2_with fail
  go_ret2
  exact ⟨rfl, Below.refl _ _⟩
set_option maxHeartbeats 1000000 in
theorem first_magic (s : ByteArray) (w : World) (h : 16 ≤ s.size) (hm : s.data.toList.take 4 ≠ magicL) :
    Calls Tryz.prog 15 #[.string s] w fun e w' => e = .returned (.tuple #[.int .i64 0, .int .i64 4]) ∧ Below w.heap.size w w' := by
  have d1 : decide ((s.size : Int) < 16) = false := decide_eq_false (by omega)
  have H := Lib.hid (prefix_any s false w (by omega) (by rw [prefix_iff s (by omega), decide_eq_false hm]))
  go_enter Tryz.func15, Tryz.ntmps15
  go_wp2_with fail
  refine H.out.mono ?_
  rintro e w1 ⟨rfl, rfl⟩
  go_wp2_with fail
  go_ret2
  exact ⟨rfl, Below.refl _ _⟩
theorem take16 (s : ByteArray) (h : 16 ≤ s.size) : (s.extract 0 16).data.toList = s.data.toList.take 16 ∧ (s.extract 0 16).size = 16 := by
  refine ⟨by simp, ?_⟩
  rw [ByteArray.size_extract]; omega
set_option maxHeartbeats 1000000 in
theorem first_sum (s : ByteArray) (w : World) (h : 16 ≤ s.size) (hm : s.data.toList.take 4 = magicL) (hs : isSealed (s.data.toList.take 16) = false) :
    Calls Tryz.prog 15 #[.string s] w fun e w' => e = .returned (.tuple #[.int .i64 0, .int .i64 42]) ∧ Below w.heap.size w w' := by
  have d1 : decide ((s.size : Int) < 16) = false := decide_eq_false (by omega)
  obtain ⟨t1, t2⟩ := take16 s h
  have H := Lib.hid (prefix_any s true w (by omega) (by rw [prefix_iff s (by omega), decide_eq_true hm]))
  have HO := Lib.hid (open_no (s.extract 0 16) w (by omega) (by omega) (by rw [t1]; exact hs))
  clear hm hs t1 t2
  go_enter Tryz.func15, Tryz.ntmps15
  go_wp2_with fail
  refine H.out.mono ?_
  rintro e w1 ⟨rfl, rfl⟩
  go_wp2_with fail
  refine HO.out.mono ?_
  rintro e w1 ⟨rfl, hb1⟩
  go_wp2_with fail
  go_ret2
  exact ⟨rfl, hb1⟩
set_option maxHeartbeats 1000000 in
theorem first_open (s : ByteArray) (w : World) (h : 16 ≤ s.size) (hm : s.data.toList.take 4 = magicL) (hs : isSealed (s.data.toList.take 16) = true) :
    Calls Tryz.prog 15 #[.string s] w fun e w' => e = .returned (if 1048576 < hdF s.data.toList then .tuple #[.int .i64 0, .int .i64 4] else .tuple #[.int .i64 (hdF s.data.toList), .int .i64 0]) ∧ Below w.heap.size w w' := by
  have d1 : decide ((s.size : Int) < 16) = false := decide_eq_false (by omega)
  obtain ⟨t1, t2⟩ := take16 s h
  have H := Lib.hid (prefix_any s true w (by omega) (by rw [prefix_iff s (by omega), decide_eq_true hm]))
  have ho := open_yes (s.extract 0 16) w (by omega) (by omega) (by rw [t1]; exact hs)
  rw [t2, show 16 - 4 = 12 from rfl] at ho
  have HO := Lib.hid ho
  have hx : ((s.extract 0 16).extract 0 12).size = 12 := by simp; omega
  have hx2 : (((s.extract 0 16).extract 0 12).extract 4 12).data.toList = sl s.data.toList 4 8 := by unfold sl; simp
  have hx3 : (((s.extract 0 16).extract 0 12).extract 4 12).size = 8 := by simp; omega
  obtain ⟨x, ex⟩ : ∃ x, (s.extract 0 16).extract 0 12 = x := ⟨_, rfl⟩
  rw [ex] at HO hx hx2 hx3
  obtain ⟨y, ey⟩ : ∃ y, x.extract 4 12 = y := ⟨_, rfl⟩
  rw [ey] at hx2 hx3
  have F0 := Lib.hid (show (Rd.mk y 0 0 0).fine from ⟨by show y.size ≤ 1000000; omega, Nat.zero_le _⟩)
  have c1 : (Rd.mk y 0 0 0).can 8 := ⟨rfl, by show 0 + 8 ≤ y.size; omega⟩
  have et : num ((Rd.mk y 0 0 0).took 8).data.toList = hdF s.data.toList := by
    unfold Rd.took hdF
    rw [if_pos c1, ← hx2]
    have : y.extract 0 (0 + 8) = y := by
      apply ba_ext
      have : y.data.toList.length = 8 := hx3
      simp [List.take_of_length_le (Nat.le_of_eq this)]
    show num (y.extract 0 (0 + 8)).data.toList = _
    rw [this]
  have HY := Lib.hid ey
  have ET := Lib.hid et
  obtain ⟨F, hF⟩ : ∃ F, hdF s.data.toList = F := ⟨_, rfl⟩
  have hlt : F < 18446744073709551616 := by
    rw [← hF]
    unfold hdF
    have h1 := num_lt (sl s.data.toList 4 8)
    rw [sl_length _ _ _ (by have : s.data.toList.length = s.size := rfl
                            omega)] at h1
    exact h1
  rw [hF] at ET ⊢
  have hxs : x.size = 12 := hx
  clear hm hs t1 t2 ho hx hx2 hx3 ex ey c1 et hF
  by_cases hbig : 1048576 < F
  · have d2 : decide ((1048576 : Int) < (F : Int)) = true := decide_eq_true (by omega)
    rw [if_pos hbig]
    go_enter Tryz.func15, Tryz.ntmps15
    go_wp2_with fail
    refine H.out.mono ?_
    rintro e w1 ⟨rfl, rfl⟩
    go_wp2_with fail
    refine HO.out.mono ?_
    rintro e w1 ⟨rfl, hb1⟩
    go_wp2_with fail
    rw [HY.out]
    refine (rNew y w1).mono ?_
    rintro e w2 ⟨rfl, hr2, hb2⟩
    have HB2 := Lib.hid (bel_trans hb1 hb2)
    have hz := hb1.size
    clear hb1 hb2
    go_wp2_with fail
    refine (rU64 _ _ w2 F0.out hr2).mono ?_
    rintro e w3 ⟨rfl, hr3, hb3⟩
    rw [ET.out]
    have HB3 := Lib.hid (HB2.out.trans (hb3.mono hz))
    clear hr2 hr3 hb3 HB2 hz
    go_wp2_with fail
    go_ret2
    exact ⟨rfl, HB3.out⟩
  · have d2 : decide ((1048576 : Int) < (F : Int)) = false := decide_eq_false (by omega)
    rw [if_neg hbig]
    go_enter Tryz.func15, Tryz.ntmps15
    go_wp2_with fail
    refine H.out.mono ?_
    rintro e w1 ⟨rfl, rfl⟩
    go_wp2_with fail
    refine HO.out.mono ?_
    rintro e w1 ⟨rfl, hb1⟩
    go_wp2_with fail
    rw [HY.out]
    refine (rNew y w1).mono ?_
    rintro e w2 ⟨rfl, hr2, hb2⟩
    have HB2 := Lib.hid (bel_trans hb1 hb2)
    have hz := hb1.size
    clear hb1 hb2
    go_wp2_with fail
    refine (rU64 _ _ w2 F0.out hr2).mono ?_
    rintro e w3 ⟨rfl, hr3, hb3⟩
    rw [ET.out]
    have HB3 := Lib.hid (HB2.out.trans (hb3.mono hz))
    clear hr2 hr3 hb3 HB2 hz
    go_wp2_with fail
    go_ret2
    exact ⟨rfl, HB3.out⟩

theorem first_any (s : ByteArray) (w : World) : Calls Tryz.prog 15 #[.string s] w fun e w' => e = .returned (hdV s.data.toList) ∧ Below w.heap.size w w' := by
  have hl : s.data.toList.length = s.size := rfl
  unfold hdV hdE
  by_cases h1 : s.size < 16
  · rw [hl, if_pos h1]; exact first_short s w h1
  rw [hl, if_neg h1]
  by_cases h2 : s.data.toList.take 4 = magicL
  · rw [if_neg (not_not_intro h2)]
    by_cases h3 : isSealed (s.data.toList.take 16) = false
    · rw [if_pos h3]; exact first_sum s w (by omega) h2 h3
    · rw [if_neg h3]
      refine (first_open s w (by omega) h2 (by simpa using h3)).mono ?_
      rintro e w' ⟨rfl, hb⟩
      refine ⟨?_, hb⟩
      show Ending.returned (if 1048576 < hdF s.data.toList then _ else _) = _
      by_cases h4 : 1048576 < hdF s.data.toList
      · rw [if_pos h4, if_pos (show 1048576 < num (sl s.data.toList 4 8) from h4)]; rfl
      · rw [if_neg h4, if_neg (show ¬ 1048576 < num (sl s.data.toList 4 8) from h4)]; rfl
  · rw [if_pos h2]; exact first_magic s w (by omega) h2

end Go.Proofs.YtaonjbkkgeiniaaGreatDoor
