/- frame.Read: the other ways. -/
import Derived.Test.YtkgcjelipllpdaaFrameRead
import Derived.Deep.DeepCutAuto
namespace Go.Proofs.Ytkgcjelipllpdaa
open Go.RowKit

theorem drop_extract (s : ByteArray) (a : Nat) : (s.extract a s.size).data.toList = s.data.toList.drop a := by
  have h : s.data.toList.length = s.size := rfl
  have h2 : (s.extract a s.size).data.toList = (s.data.toList.drop a).take (s.size - a) := by simp
  rw [h2, List.take_of_length_le (by rw [List.length_drop]; omega)]
theorem sl_drop (l : List UInt8) (a i n : Nat) : sl (l.drop a) i n = sl l (a + i) n := by unfold sl; rw [List.drop_drop]
theorem ext_sl (s x : ByteArray) (a i n : Nat) (h : x.data.toList = s.data.toList.drop a) : (x.extract i (i + n)).data.toList = sl s.data.toList (a + i) n := by
  rw [sl_extract, h, sl_drop]
theorem read_n (s x : ByteArray) (a : Nat) (h : x.data.toList = s.data.toList.drop a) : num (x.extract 0 4).data.toList = fN s.data.toList a := by
  have := ext_sl s x a 0 4 h
  unfold fN; rw [Nat.zero_add] at this; rw [this]; rfl
theorem read_q (s x : ByteArray) (a : Nat) (h : x.data.toList = s.data.toList.drop a) : num (x.extract 4 12).data.toList = fQ s.data.toList a := by
  have := ext_sl s x a 4 8 h
  unfold fQ; rw [show (12 : Nat) = 4 + 8 from rfl, this]
theorem read_c (s x : ByteArray) (a : Nat) (h : x.data.toList = s.data.toList.drop a) : lowN (x.extract 12 16).data.toList = lowN (sl s.data.toList (a + 12) 4) := by
  have := ext_sl s x a 12 4 h
  rw [show (16 : Nat) = 12 + 4 from rfl, this]
theorem of_to (s : ByteArray) (d : BitVec 32) (w : World) (hs : s.size ≤ 1000000000) (h : crc s.data.toList = d) :
    Calls Try.prog 28 #[.string s] w fun e w' => e = .returned (.int .u32 d.toNat) ∧ Below w.heap.size w w' := by
  subst h; exact of_str s w hs
theorem sl_len (l : List UInt8) (a n : Nat) : (sl l a n).length ≤ n := by unfold sl; rw [List.length_take]; omega
theorem fN_lt (l : List UInt8) (a : Nat) : fN l a < 4294967296 := by
  have h1 := num_lt (sl l a 4)
  have h3 : 256 ^ (sl l a 4).length ≤ 256 ^ 4 := Nat.pow_le_pow_right (by omega) (sl_len _ _ _)
  unfold fN; omega
theorem fQ_lt (l : List UInt8) (a : Nat) : fQ l a < 18446744073709551616 := by
  have h1 := num_lt (sl l (a + 4) 8)
  have h3 : 256 ^ (sl l (a + 4) 8).length ≤ 256 ^ 8 := Nat.pow_le_pow_right (by omega) (sl_len _ _ _)
  unfold fQ; omega

set_option maxHeartbeats 2000000 in
theorem read_big (s : ByteArray) (a : Nat) (w : World) (hs : s.size ≤ 1000000) (ha : a + 16 ≤ s.size) (h : 4096 < fN s.data.toList a) :
    Calls Try.prog 10 #[.string s, .int .i64 a] w
      fun e w' => e = .returned (.tuple #[frV 0 ⟨#[]⟩ 0, .int .i64 0, .int .i64 4]) ∧ Below w.heap.size w w' := by
  have d1 : decide ((a : Int) < 0) = false := decide_eq_false (by omega)
  have d2 : decide (s.size < a) = false := decide_eq_false (by omega)
  have b0 : (0 : Int) ≤ (a : Int) := by omega
  have b1 : (a : Int) ≤ (s.size : Int) := by omega
  have hx : (s.extract a s.size).size = s.size - a := by rw [ByteArray.size_extract]; omega
  have hxl : (s.extract a s.size).data.toList = s.data.toList.drop a := drop_extract s a
  obtain ⟨x, ex⟩ : ∃ x, s.extract a s.size = x := ⟨_, rfl⟩
  rw [ex] at hx hxl
  obtain ⟨T1, T2, T3, T4⟩ := after16 x (by omega)
  have F0 := Lib.hid (show (Rd.mk x 0 0 0).fine from ⟨by show x.size ≤ 1000000; omega, Nat.zero_le _⟩)
  have N0 := Lib.hid (read_n s x a hxl)
  have N1 := Lib.hid (read_q s x a hxl)
  have N2 := Lib.hid (read_c s x a hxl)
  have HX := Lib.hid hx
  have HXL := Lib.hid hxl
  have hn4 := Lib.hid (fN_lt s.data.toList a)
  have hq8 := Lib.hid (fQ_lt s.data.toList a)
  clear hx hxl
  go_enter Try.func10, Try.ntmps10
  go_wp2_with fail
  obtain ⟨w0, ew0⟩ : ∃ z, w.alloc (.cells #[.int .i64 0, .string ⟨#[]⟩, .int .i64 0] 24) = z := ⟨_, rfl⟩
  have hr0 : w0.heap[w.heap.size]? = some (.cells (frCells 0 ⟨#[]⟩ 0) 24) := by rw [← ew0]; exact heap_alloc_new _ _
  have hz0 : w0.heap.size = w.heap.size + 1 := by rw [← ew0]; simp
  have hb0 : Below w.heap.size w w0 := by rw [← ew0]; exact (Below.refl _ _).alloc (Nat.le_refl _) _
  rw [ew0]
  clear ew0
  obtain ⟨g, eg⟩ : ∃ g, w.heap.size = g := ⟨_, rfl⟩
  rw [eg] at hr0 hz0 hb0 ⊢
  have HR0 := Lib.hid hr0
  have HZ0 := Lib.hid hz0
  have HB0 := Lib.hid hb0
  have EG := Lib.hid eg
  clear hr0 hz0 hb0 eg
  refine (rNew x w0).mono ?_
  rintro e w1 ⟨rfl, hr1, hb1⟩
  rw [HZ0.out] at hr1 hb1 ⊢
  have HB1 := Lib.hid hb1
  go_wp2_with fail
  refine (rU32 (g + 1) _ w1 F0.out hr1).mono ?_
  rintro e w2 ⟨rfl, hr2, hb2⟩
  have HB2 := Lib.hid (HB1.out.trans hb2)
  clear hr1 hb1 HB1 hb2
  rw [T2, N0.out]
  obtain ⟨n, en⟩ : ∃ n, fN s.data.toList a = n := ⟨_, rfl⟩
  rw [en] at hn4 ⊢
  have EN := Lib.hid en
  clear en
  go_wp2_with fail
  refine (rU64 (g + 1) _ w2 (F0.out.next 4) hr2).mono ?_
  rintro e w3 ⟨rfl, hr3, hb3⟩
  have HB3 := Lib.hid (HB2.out.trans hb3)
  clear hr2 HB2 hb3
  rw [T3, N1.out]
  obtain ⟨q, eq⟩ : ∃ n, fQ s.data.toList a = n := ⟨_, rfl⟩
  rw [eq] at hq8 ⊢
  have EQ := Lib.hid eq
  clear eq
  go_wp2_with fail
  refine (rLow (g + 1) _ w3 ((F0.out.next 4).next 8) hr3).mono ?_
  rintro e w4 ⟨rfl, hr4, hb4⟩
  have HB4 := Lib.hid (HB3.out.trans hb4)
  clear hr3 HB3 hb4
  rw [T4, N2.out]
  obtain ⟨c, ec⟩ : ∃ c, lowN (sl s.data.toList (a + 12) 4) = c := ⟨_, rfl⟩
  rw [ec]
  have EC := Lib.hid ec
  clear ec
  rw [T1] at hr4
  clear T1 T2 T3 T4 N0 N1 N2
  have HR4 := Lib.hid hr4
  clear hr4
  go_wp2_with fail
  refine (rErr (g + 1) _ w4 HR4.out).mono ?_
  rintro e w5 ⟨rfl, hb5⟩
  have HB5 := Lib.hid (HB4.out.trans (hb5.mono (by have := HR4.out.lt; omega)))
  have HR5 := Lib.hid (HR4.out.keep hb5 HR4.out.lt)
  clear HB4 hb5 HR4
  have HC := Lib.hid (show w5.heap[g]? = some (.cells (frCells 0 ⟨#[]⟩ 0) 24) by rw [HB5.out.block g (by omega)]; exact HR0.out)
  have HW := Lib.hid (show Below g w w5 from HB0.out.trans (HB5.out.mono (by omega)))
  clear HB5 HR0 HB0 HZ0
  rw [EN.out] at h
  have d3 : decide ((4096 : Int) < (n : Int)) = true := decide_eq_true (by omega)
  clear h
  obtain ⟨k0, k1, k2, l0, l1, l2⟩ := fr_cells HC.out
  go_wp2_with fail
  have eg := EG.out
  subst eg
  refine bodyPost_ret_by (results_frame _ _ w.heap.size 0 ⟨#[]⟩ 0 (.int .i64 0) (.int .i64 4) rfl (fr_stored HC.out) rfl rfl) rfl ⟨rfl, fr_below HW.out _ _ _⟩

set_option maxHeartbeats 2000000 in
theorem read_zero (s : ByteArray) (a : Nat) (w : World) (hs : s.size ≤ 1000000) (ha : a + 16 ≤ s.size) (h : fN s.data.toList a = 0) :
    Calls Try.prog 10 #[.string s, .int .i64 a] w
      fun e w' => e = .returned (.tuple #[frV 0 ⟨#[]⟩ 0, .int .i64 0, .int .i64 4]) ∧ Below w.heap.size w w' := by
  have d1 : decide ((a : Int) < 0) = false := decide_eq_false (by omega)
  have d2 : decide (s.size < a) = false := decide_eq_false (by omega)
  have b0 : (0 : Int) ≤ (a : Int) := by omega
  have b1 : (a : Int) ≤ (s.size : Int) := by omega
  have hx : (s.extract a s.size).size = s.size - a := by rw [ByteArray.size_extract]; omega
  have hxl : (s.extract a s.size).data.toList = s.data.toList.drop a := drop_extract s a
  obtain ⟨x, ex⟩ : ∃ x, s.extract a s.size = x := ⟨_, rfl⟩
  rw [ex] at hx hxl
  obtain ⟨T1, T2, T3, T4⟩ := after16 x (by omega)
  have F0 := Lib.hid (show (Rd.mk x 0 0 0).fine from ⟨by show x.size ≤ 1000000; omega, Nat.zero_le _⟩)
  have N0 := Lib.hid (read_n s x a hxl)
  have N1 := Lib.hid (read_q s x a hxl)
  have N2 := Lib.hid (read_c s x a hxl)
  have HX := Lib.hid hx
  have HXL := Lib.hid hxl
  have hn4 := Lib.hid (fN_lt s.data.toList a)
  have hq8 := Lib.hid (fQ_lt s.data.toList a)
  clear hx hxl
  go_enter Try.func10, Try.ntmps10
  go_wp2_with fail
  obtain ⟨w0, ew0⟩ : ∃ z, w.alloc (.cells #[.int .i64 0, .string ⟨#[]⟩, .int .i64 0] 24) = z := ⟨_, rfl⟩
  have hr0 : w0.heap[w.heap.size]? = some (.cells (frCells 0 ⟨#[]⟩ 0) 24) := by rw [← ew0]; exact heap_alloc_new _ _
  have hz0 : w0.heap.size = w.heap.size + 1 := by rw [← ew0]; simp
  have hb0 : Below w.heap.size w w0 := by rw [← ew0]; exact (Below.refl _ _).alloc (Nat.le_refl _) _
  rw [ew0]
  clear ew0
  obtain ⟨g, eg⟩ : ∃ g, w.heap.size = g := ⟨_, rfl⟩
  rw [eg] at hr0 hz0 hb0 ⊢
  have HR0 := Lib.hid hr0
  have HZ0 := Lib.hid hz0
  have HB0 := Lib.hid hb0
  have EG := Lib.hid eg
  clear hr0 hz0 hb0 eg
  refine (rNew x w0).mono ?_
  rintro e w1 ⟨rfl, hr1, hb1⟩
  rw [HZ0.out] at hr1 hb1 ⊢
  have HB1 := Lib.hid hb1
  go_wp2_with fail
  refine (rU32 (g + 1) _ w1 F0.out hr1).mono ?_
  rintro e w2 ⟨rfl, hr2, hb2⟩
  have HB2 := Lib.hid (HB1.out.trans hb2)
  clear hr1 hb1 HB1 hb2
  rw [T2, N0.out]
  obtain ⟨n, en⟩ : ∃ n, fN s.data.toList a = n := ⟨_, rfl⟩
  rw [en] at hn4 ⊢
  have EN := Lib.hid en
  clear en
  go_wp2_with fail
  refine (rU64 (g + 1) _ w2 (F0.out.next 4) hr2).mono ?_
  rintro e w3 ⟨rfl, hr3, hb3⟩
  have HB3 := Lib.hid (HB2.out.trans hb3)
  clear hr2 HB2 hb3
  rw [T3, N1.out]
  obtain ⟨q, eq⟩ : ∃ n, fQ s.data.toList a = n := ⟨_, rfl⟩
  rw [eq] at hq8 ⊢
  have EQ := Lib.hid eq
  clear eq
  go_wp2_with fail
  refine (rLow (g + 1) _ w3 ((F0.out.next 4).next 8) hr3).mono ?_
  rintro e w4 ⟨rfl, hr4, hb4⟩
  have HB4 := Lib.hid (HB3.out.trans hb4)
  clear hr3 HB3 hb4
  rw [T4, N2.out]
  obtain ⟨c, ec⟩ : ∃ c, lowN (sl s.data.toList (a + 12) 4) = c := ⟨_, rfl⟩
  rw [ec]
  have EC := Lib.hid ec
  clear ec
  rw [T1] at hr4
  clear T1 T2 T3 T4 N0 N1 N2
  have HR4 := Lib.hid hr4
  clear hr4
  go_wp2_with fail
  refine (rErr (g + 1) _ w4 HR4.out).mono ?_
  rintro e w5 ⟨rfl, hb5⟩
  have HB5 := Lib.hid (HB4.out.trans (hb5.mono (by have := HR4.out.lt; omega)))
  have HR5 := Lib.hid (HR4.out.keep hb5 HR4.out.lt)
  clear HB4 hb5 HR4
  have HC := Lib.hid (show w5.heap[g]? = some (.cells (frCells 0 ⟨#[]⟩ 0) 24) by rw [HB5.out.block g (by omega)]; exact HR0.out)
  have HW := Lib.hid (show Below g w w5 from HB0.out.trans (HB5.out.mono (by omega)))
  clear HB5 HR0 HB0 HZ0
  rw [EN.out] at h
  subst h
  have d3 : decide (lenOk ((0 : Nat) : Int)) = false := by decide
  go_wp2_with fail
  refine (length_any 0 _).mono ?_
  rintro e w' ⟨rfl, rfl⟩
  have d4 : decide (lenOk 0) = false := by decide
  rw [d4]
  obtain ⟨k0, k1, k2, l0, l1, l2⟩ := fr_cells HC.out
  go_wp2_with fail
  have eg := EG.out
  subst eg
  refine bodyPost_ret_by (results_frame _ _ w.heap.size 0 ⟨#[]⟩ 0 (.int .i64 0) (.int .i64 4) rfl (fr_stored HC.out) rfl rfl) rfl ⟨rfl, fr_below HW.out _ _ _⟩

set_option maxHeartbeats 2000000 in
theorem read_seq (s : ByteArray) (a : Nat) (w : World) (hs : s.size ≤ 1000000) (ha : a + 16 ≤ s.size) (h : 1 ≤ fN s.data.toList a) (h' : fN s.data.toList a ≤ 4096) (hq : 1048576 ≤ fQ s.data.toList a) :
    Calls Try.prog 10 #[.string s, .int .i64 a] w
      fun e w' => e = .returned (.tuple #[frV 0 ⟨#[]⟩ 0, .int .i64 0, .int .i64 4]) ∧ Below w.heap.size w w' := by
  have d1 : decide ((a : Int) < 0) = false := decide_eq_false (by omega)
  have d2 : decide (s.size < a) = false := decide_eq_false (by omega)
  have b0 : (0 : Int) ≤ (a : Int) := by omega
  have b1 : (a : Int) ≤ (s.size : Int) := by omega
  have hx : (s.extract a s.size).size = s.size - a := by rw [ByteArray.size_extract]; omega
  have hxl : (s.extract a s.size).data.toList = s.data.toList.drop a := drop_extract s a
  obtain ⟨x, ex⟩ : ∃ x, s.extract a s.size = x := ⟨_, rfl⟩
  rw [ex] at hx hxl
  obtain ⟨T1, T2, T3, T4⟩ := after16 x (by omega)
  have F0 := Lib.hid (show (Rd.mk x 0 0 0).fine from ⟨by show x.size ≤ 1000000; omega, Nat.zero_le _⟩)
  have N0 := Lib.hid (read_n s x a hxl)
  have N1 := Lib.hid (read_q s x a hxl)
  have N2 := Lib.hid (read_c s x a hxl)
  have HX := Lib.hid hx
  have HXL := Lib.hid hxl
  have hn4 := Lib.hid (fN_lt s.data.toList a)
  have hq8 := Lib.hid (fQ_lt s.data.toList a)
  clear hx hxl
  go_enter Try.func10, Try.ntmps10
  go_wp2_with fail
  obtain ⟨w0, ew0⟩ : ∃ z, w.alloc (.cells #[.int .i64 0, .string ⟨#[]⟩, .int .i64 0] 24) = z := ⟨_, rfl⟩
  have hr0 : w0.heap[w.heap.size]? = some (.cells (frCells 0 ⟨#[]⟩ 0) 24) := by rw [← ew0]; exact heap_alloc_new _ _
  have hz0 : w0.heap.size = w.heap.size + 1 := by rw [← ew0]; simp
  have hb0 : Below w.heap.size w w0 := by rw [← ew0]; exact (Below.refl _ _).alloc (Nat.le_refl _) _
  rw [ew0]
  clear ew0
  obtain ⟨g, eg⟩ : ∃ g, w.heap.size = g := ⟨_, rfl⟩
  rw [eg] at hr0 hz0 hb0 ⊢
  have HR0 := Lib.hid hr0
  have HZ0 := Lib.hid hz0
  have HB0 := Lib.hid hb0
  have EG := Lib.hid eg
  clear hr0 hz0 hb0 eg
  refine (rNew x w0).mono ?_
  rintro e w1 ⟨rfl, hr1, hb1⟩
  rw [HZ0.out] at hr1 hb1 ⊢
  have HB1 := Lib.hid hb1
  go_wp2_with fail
  refine (rU32 (g + 1) _ w1 F0.out hr1).mono ?_
  rintro e w2 ⟨rfl, hr2, hb2⟩
  have HB2 := Lib.hid (HB1.out.trans hb2)
  clear hr1 hb1 HB1 hb2
  rw [T2, N0.out]
  obtain ⟨n, en⟩ : ∃ n, fN s.data.toList a = n := ⟨_, rfl⟩
  rw [en] at hn4 ⊢
  have EN := Lib.hid en
  clear en
  go_wp2_with fail
  refine (rU64 (g + 1) _ w2 (F0.out.next 4) hr2).mono ?_
  rintro e w3 ⟨rfl, hr3, hb3⟩
  have HB3 := Lib.hid (HB2.out.trans hb3)
  clear hr2 HB2 hb3
  rw [T3, N1.out]
  obtain ⟨q, eq⟩ : ∃ n, fQ s.data.toList a = n := ⟨_, rfl⟩
  rw [eq] at hq8 ⊢
  have EQ := Lib.hid eq
  clear eq
  go_wp2_with fail
  refine (rLow (g + 1) _ w3 ((F0.out.next 4).next 8) hr3).mono ?_
  rintro e w4 ⟨rfl, hr4, hb4⟩
  have HB4 := Lib.hid (HB3.out.trans hb4)
  clear hr3 HB3 hb4
  rw [T4, N2.out]
  obtain ⟨c, ec⟩ : ∃ c, lowN (sl s.data.toList (a + 12) 4) = c := ⟨_, rfl⟩
  rw [ec]
  have EC := Lib.hid ec
  clear ec
  rw [T1] at hr4
  clear T1 T2 T3 T4 N0 N1 N2
  have HR4 := Lib.hid hr4
  clear hr4
  go_wp2_with fail
  refine (rErr (g + 1) _ w4 HR4.out).mono ?_
  rintro e w5 ⟨rfl, hb5⟩
  have HB5 := Lib.hid (HB4.out.trans (hb5.mono (by have := HR4.out.lt; omega)))
  have HR5 := Lib.hid (HR4.out.keep hb5 HR4.out.lt)
  clear HB4 hb5 HR4
  have HC := Lib.hid (show w5.heap[g]? = some (.cells (frCells 0 ⟨#[]⟩ 0) 24) by rw [HB5.out.block g (by omega)]; exact HR0.out)
  have HW := Lib.hid (show Below g w w5 from HB0.out.trans (HB5.out.mono (by omega)))
  clear HB5 HR0 HB0 HZ0
  rw [EN.out] at h h'
  have d3 : decide ((4096 : Int) < (n : Int)) = false := decide_eq_false (by omega)
  have hwn : IntKind.i64.wrap (n : Int) = (n : Int) := IntWalk.i64_in _ (by omega)
  have HN := Lib.hid h
  have HN' := Lib.hid h'
  clear h h'
  go_wp2_with fail
  refine (length_any n _).mono ?_
  rintro e w' ⟨rfl, rfl⟩
  have d4 : decide (lenOk (n : Int)) = true := decide_eq_true (by have := HN.out; have := HN'.out; unfold lenOk; omega)
  rw [d4]
  rw [EQ.out] at hq
  have d5 : decide ((1048576 : Int) ≤ (q : Int)) = true := decide_eq_true (by omega)
  clear hq
  obtain ⟨k0, k1, k2, l0, l1, l2⟩ := fr_cells HC.out
  go_wp2_with fail
  have eg := EG.out
  subst eg
  refine bodyPost_ret_by (results_frame _ _ w.heap.size 0 ⟨#[]⟩ 0 (.int .i64 0) (.int .i64 4) rfl (fr_stored HC.out) rfl rfl) rfl ⟨rfl, fr_below HW.out _ _ _⟩

set_option maxHeartbeats 2000000 in
theorem read_cut (s : ByteArray) (a : Nat) (w : World) (hs : s.size ≤ 1000000) (ha : a + 16 ≤ s.size) (h : 1 ≤ fN s.data.toList a) (h' : fN s.data.toList a ≤ 4096) (hq : fQ s.data.toList a < 1048576) (hl : s.size < a + 16 + fN s.data.toList a) :
    Calls Try.prog 10 #[.string s, .int .i64 a] w
      fun e w' => e = .returned (.tuple #[frV 0 ⟨#[]⟩ 0, .int .i64 0, .int .i64 8]) ∧ Below w.heap.size w w' := by
  have d1 : decide ((a : Int) < 0) = false := decide_eq_false (by omega)
  have d2 : decide (s.size < a) = false := decide_eq_false (by omega)
  have b0 : (0 : Int) ≤ (a : Int) := by omega
  have b1 : (a : Int) ≤ (s.size : Int) := by omega
  have hx : (s.extract a s.size).size = s.size - a := by rw [ByteArray.size_extract]; omega
  have hxl : (s.extract a s.size).data.toList = s.data.toList.drop a := drop_extract s a
  obtain ⟨x, ex⟩ : ∃ x, s.extract a s.size = x := ⟨_, rfl⟩
  rw [ex] at hx hxl
  obtain ⟨T1, T2, T3, T4⟩ := after16 x (by omega)
  have F0 := Lib.hid (show (Rd.mk x 0 0 0).fine from ⟨by show x.size ≤ 1000000; omega, Nat.zero_le _⟩)
  have N0 := Lib.hid (read_n s x a hxl)
  have N1 := Lib.hid (read_q s x a hxl)
  have N2 := Lib.hid (read_c s x a hxl)
  have HX := Lib.hid hx
  have HXL := Lib.hid hxl
  have hn4 := Lib.hid (fN_lt s.data.toList a)
  have hq8 := Lib.hid (fQ_lt s.data.toList a)
  clear hx hxl
  go_enter Try.func10, Try.ntmps10
  go_wp2_with fail
  obtain ⟨w0, ew0⟩ : ∃ z, w.alloc (.cells #[.int .i64 0, .string ⟨#[]⟩, .int .i64 0] 24) = z := ⟨_, rfl⟩
  have hr0 : w0.heap[w.heap.size]? = some (.cells (frCells 0 ⟨#[]⟩ 0) 24) := by rw [← ew0]; exact heap_alloc_new _ _
  have hz0 : w0.heap.size = w.heap.size + 1 := by rw [← ew0]; simp
  have hb0 : Below w.heap.size w w0 := by rw [← ew0]; exact (Below.refl _ _).alloc (Nat.le_refl _) _
  rw [ew0]
  clear ew0
  obtain ⟨g, eg⟩ : ∃ g, w.heap.size = g := ⟨_, rfl⟩
  rw [eg] at hr0 hz0 hb0 ⊢
  have HR0 := Lib.hid hr0
  have HZ0 := Lib.hid hz0
  have HB0 := Lib.hid hb0
  have EG := Lib.hid eg
  clear hr0 hz0 hb0 eg
  refine (rNew x w0).mono ?_
  rintro e w1 ⟨rfl, hr1, hb1⟩
  rw [HZ0.out] at hr1 hb1 ⊢
  have HB1 := Lib.hid hb1
  go_wp2_with fail
  refine (rU32 (g + 1) _ w1 F0.out hr1).mono ?_
  rintro e w2 ⟨rfl, hr2, hb2⟩
  have HB2 := Lib.hid (HB1.out.trans hb2)
  clear hr1 hb1 HB1 hb2
  rw [T2, N0.out]
  obtain ⟨n, en⟩ : ∃ n, fN s.data.toList a = n := ⟨_, rfl⟩
  rw [en] at hn4 ⊢
  have EN := Lib.hid en
  clear en
  go_wp2_with fail
  refine (rU64 (g + 1) _ w2 (F0.out.next 4) hr2).mono ?_
  rintro e w3 ⟨rfl, hr3, hb3⟩
  have HB3 := Lib.hid (HB2.out.trans hb3)
  clear hr2 HB2 hb3
  rw [T3, N1.out]
  obtain ⟨q, eq⟩ : ∃ n, fQ s.data.toList a = n := ⟨_, rfl⟩
  rw [eq] at hq8 ⊢
  have EQ := Lib.hid eq
  clear eq
  go_wp2_with fail
  refine (rLow (g + 1) _ w3 ((F0.out.next 4).next 8) hr3).mono ?_
  rintro e w4 ⟨rfl, hr4, hb4⟩
  have HB4 := Lib.hid (HB3.out.trans hb4)
  clear hr3 HB3 hb4
  rw [T4, N2.out]
  obtain ⟨c, ec⟩ : ∃ c, lowN (sl s.data.toList (a + 12) 4) = c := ⟨_, rfl⟩
  rw [ec]
  have EC := Lib.hid ec
  clear ec
  rw [T1] at hr4
  clear T1 T2 T3 T4 N0 N1 N2
  have HR4 := Lib.hid hr4
  clear hr4
  go_wp2_with fail
  refine (rErr (g + 1) _ w4 HR4.out).mono ?_
  rintro e w5 ⟨rfl, hb5⟩
  have HB5 := Lib.hid (HB4.out.trans (hb5.mono (by have := HR4.out.lt; omega)))
  have HR5 := Lib.hid (HR4.out.keep hb5 HR4.out.lt)
  clear HB4 hb5 HR4
  have HC := Lib.hid (show w5.heap[g]? = some (.cells (frCells 0 ⟨#[]⟩ 0) 24) by rw [HB5.out.block g (by omega)]; exact HR0.out)
  have HW := Lib.hid (show Below g w w5 from HB0.out.trans (HB5.out.mono (by omega)))
  clear HB5 HR0 HB0 HZ0
  rw [EN.out] at h h'
  have d3 : decide ((4096 : Int) < (n : Int)) = false := decide_eq_false (by omega)
  have hwn : IntKind.i64.wrap (n : Int) = (n : Int) := IntWalk.i64_in _ (by omega)
  have HN := Lib.hid h
  have HN' := Lib.hid h'
  clear h h'
  go_wp2_with fail
  refine (length_any n _).mono ?_
  rintro e w' ⟨rfl, rfl⟩
  have d4 : decide (lenOk (n : Int)) = true := decide_eq_true (by have := HN.out; have := HN'.out; unfold lenOk; omega)
  rw [d4]
  rw [EQ.out] at hq
  have d5 : decide ((1048576 : Int) ≤ (q : Int)) = false := decide_eq_false (by omega)
  have HQ := Lib.hid hq
  clear hq
  go_wp2_with fail
  have hcan : ¬ (Rd.mk x 16 0 0).can n := by
    intro k
    have := k.2
    have := HX.out
    rw [EN.out] at hl
    have h5 : 16 + n ≤ x.size := k.2
    omega
  have e1 : (Rd.mk x 16 0 0).took n = ⟨#[]⟩ := by unfold Rd.took; rw [if_neg hcan]
  have e2 : (Rd.mk x 16 0 0).after n = ⟨x, 16, 8, 16⟩ := by unfold Rd.after; rw [if_neg hcan, if_pos rfl]
  have hraw := rRaw (g + 1) ⟨x, 16, 0, 0⟩ n w5 ⟨F0.out.1, by have := HX.out; show 16 ≤ x.size; omega⟩ (by have := HN'.out; omega) HR5.out
  rw [e1, e2] at hraw
  clear e1 e2 hcan
  refine hraw.mono ?_
  rintro e w6 ⟨rfl, hr6, hb6⟩
  clear hraw
  have hc6 := HC.out
  rw [← hb6.block g (by omega)] at hc6
  have HC6 := Lib.hid hc6
  have HW6 := Lib.hid (HW.out.trans (hb6.mono (by omega)))
  have HR6 := Lib.hid hr6
  clear hc6 hb6 hr6 HC HW HR5
  go_wp2_with fail
  refine (rErr (g + 1) _ w6 HR6.out).mono ?_
  rintro e w7 ⟨rfl, hb7⟩
  have HC := Lib.hid (show w7.heap[g]? = some (.cells (frCells 0 ⟨#[]⟩ 0) 24) by rw [hb7.block g (by have := HR6.out.lt; omega)]; exact HC6.out)
  have HW := Lib.hid (HW6.out.trans (hb7.mono (by have := HR6.out.lt; omega)))
  clear hb7 HC6 HW6
  obtain ⟨k0, k1, k2, l0, l1, l2⟩ := fr_cells HC.out
  go_wp2_with fail
  have eg := EG.out
  subst eg
  refine bodyPost_ret_by (results_frame _ _ w.heap.size 0 ⟨#[]⟩ 0 (.int .i64 0) (.int .i64 8) rfl (fr_stored HC.out) rfl rfl) rfl ⟨rfl, fr_below HW.out _ _ _⟩

set_option maxHeartbeats 2000000 in
theorem read_sum (s : ByteArray) (a : Nat) (w : World) (hs : s.size ≤ 1000000) (ha : a + 16 ≤ s.size) (h : 1 ≤ fN s.data.toList a) (h' : fN s.data.toList a ≤ 4096) (hq : fQ s.data.toList a < 1048576) (hl : a + 16 + fN s.data.toList a ≤ s.size) (hm : ¬ fSum s.data.toList a) :
    Calls Try.prog 10 #[.string s, .int .i64 a] w
      fun e w' => e = .returned (.tuple #[frV 0 ⟨#[]⟩ 0, .int .i64 0, .int .i64 42]) ∧ Below w.heap.size w w' := by
  have d1 : decide ((a : Int) < 0) = false := decide_eq_false (by omega)
  have d2 : decide (s.size < a) = false := decide_eq_false (by omega)
  have b0 : (0 : Int) ≤ (a : Int) := by omega
  have b1 : (a : Int) ≤ (s.size : Int) := by omega
  have hx : (s.extract a s.size).size = s.size - a := by rw [ByteArray.size_extract]; omega
  have hxl : (s.extract a s.size).data.toList = s.data.toList.drop a := drop_extract s a
  obtain ⟨x, ex⟩ : ∃ x, s.extract a s.size = x := ⟨_, rfl⟩
  rw [ex] at hx hxl
  obtain ⟨T1, T2, T3, T4⟩ := after16 x (by omega)
  have F0 := Lib.hid (show (Rd.mk x 0 0 0).fine from ⟨by show x.size ≤ 1000000; omega, Nat.zero_le _⟩)
  have N0 := Lib.hid (read_n s x a hxl)
  have N1 := Lib.hid (read_q s x a hxl)
  have N2 := Lib.hid (read_c s x a hxl)
  have HX := Lib.hid hx
  have HXL := Lib.hid hxl
  have hn4 := Lib.hid (fN_lt s.data.toList a)
  have hq8 := Lib.hid (fQ_lt s.data.toList a)
  clear hx hxl
  go_enter Try.func10, Try.ntmps10
  go_wp2_with fail
  obtain ⟨w0, ew0⟩ : ∃ z, w.alloc (.cells #[.int .i64 0, .string ⟨#[]⟩, .int .i64 0] 24) = z := ⟨_, rfl⟩
  have hr0 : w0.heap[w.heap.size]? = some (.cells (frCells 0 ⟨#[]⟩ 0) 24) := by rw [← ew0]; exact heap_alloc_new _ _
  have hz0 : w0.heap.size = w.heap.size + 1 := by rw [← ew0]; simp
  have hb0 : Below w.heap.size w w0 := by rw [← ew0]; exact (Below.refl _ _).alloc (Nat.le_refl _) _
  rw [ew0]
  clear ew0
  obtain ⟨g, eg⟩ : ∃ g, w.heap.size = g := ⟨_, rfl⟩
  rw [eg] at hr0 hz0 hb0 ⊢
  have HR0 := Lib.hid hr0
  have HZ0 := Lib.hid hz0
  have HB0 := Lib.hid hb0
  have EG := Lib.hid eg
  clear hr0 hz0 hb0 eg
  refine (rNew x w0).mono ?_
  rintro e w1 ⟨rfl, hr1, hb1⟩
  rw [HZ0.out] at hr1 hb1 ⊢
  have HB1 := Lib.hid hb1
  go_wp2_with fail
  refine (rU32 (g + 1) _ w1 F0.out hr1).mono ?_
  rintro e w2 ⟨rfl, hr2, hb2⟩
  have HB2 := Lib.hid (HB1.out.trans hb2)
  clear hr1 hb1 HB1 hb2
  rw [T2, N0.out]
  obtain ⟨n, en⟩ : ∃ n, fN s.data.toList a = n := ⟨_, rfl⟩
  rw [en] at hn4 ⊢
  have EN := Lib.hid en
  clear en
  go_wp2_with fail
  refine (rU64 (g + 1) _ w2 (F0.out.next 4) hr2).mono ?_
  rintro e w3 ⟨rfl, hr3, hb3⟩
  have HB3 := Lib.hid (HB2.out.trans hb3)
  clear hr2 HB2 hb3
  rw [T3, N1.out]
  obtain ⟨q, eq⟩ : ∃ n, fQ s.data.toList a = n := ⟨_, rfl⟩
  rw [eq] at hq8 ⊢
  have EQ := Lib.hid eq
  clear eq
  go_wp2_with fail
  refine (rLow (g + 1) _ w3 ((F0.out.next 4).next 8) hr3).mono ?_
  rintro e w4 ⟨rfl, hr4, hb4⟩
  have HB4 := Lib.hid (HB3.out.trans hb4)
  clear hr3 HB3 hb4
  rw [T4, N2.out]
  obtain ⟨c, ec⟩ : ∃ c, lowN (sl s.data.toList (a + 12) 4) = c := ⟨_, rfl⟩
  rw [ec]
  have EC := Lib.hid ec
  clear ec
  rw [T1] at hr4
  clear T1 T2 T3 T4 N0 N1 N2
  have HR4 := Lib.hid hr4
  clear hr4
  go_wp2_with fail
  refine (rErr (g + 1) _ w4 HR4.out).mono ?_
  rintro e w5 ⟨rfl, hb5⟩
  have HB5 := Lib.hid (HB4.out.trans (hb5.mono (by have := HR4.out.lt; omega)))
  have HR5 := Lib.hid (HR4.out.keep hb5 HR4.out.lt)
  clear HB4 hb5 HR4
  have HC := Lib.hid (show w5.heap[g]? = some (.cells (frCells 0 ⟨#[]⟩ 0) 24) by rw [HB5.out.block g (by omega)]; exact HR0.out)
  have HW := Lib.hid (show Below g w w5 from HB0.out.trans (HB5.out.mono (by omega)))
  clear HB5 HR0 HB0 HZ0
  rw [EN.out] at h h'
  have d3 : decide ((4096 : Int) < (n : Int)) = false := decide_eq_false (by omega)
  have hwn : IntKind.i64.wrap (n : Int) = (n : Int) := IntWalk.i64_in _ (by omega)
  have HN := Lib.hid h
  have HN' := Lib.hid h'
  clear h h'
  go_wp2_with fail
  refine (length_any n _).mono ?_
  rintro e w' ⟨rfl, rfl⟩
  have d4 : decide (lenOk (n : Int)) = true := decide_eq_true (by have := HN.out; have := HN'.out; unfold lenOk; omega)
  rw [d4]
  rw [EQ.out] at hq
  have d5 : decide ((1048576 : Int) ≤ (q : Int)) = false := decide_eq_false (by omega)
  have HQ := Lib.hid hq
  clear hq
  go_wp2_with fail
  have hcan : (Rd.mk x 16 0 0).can n := by
    have := HX.out
    rw [EN.out] at hl
    exact ⟨rfl, by show 16 + n ≤ x.size; omega⟩
  have e1 : (Rd.mk x 16 0 0).took n = x.extract 16 (16 + n) := by unfold Rd.took; rw [if_pos hcan]
  have e2 : (Rd.mk x 16 0 0).after n = ⟨x, 16 + n, 0, 0⟩ := by unfold Rd.after; rw [if_pos hcan]
  have hraw := rRaw (g + 1) ⟨x, 16, 0, 0⟩ n w5 ⟨F0.out.1, by have := HX.out; show 16 ≤ x.size; omega⟩ (by have := HN'.out; omega) HR5.out
  rw [e1, e2] at hraw
  clear e1 e2 hcan
  have hyl : (x.extract 16 (16 + n)).data.toList = sl s.data.toList (a + 16) n := ext_sl s x a 16 n HXL.out
  obtain ⟨y, ey⟩ : ∃ y, x.extract 16 (16 + n) = y := ⟨_, rfl⟩
  rw [ey] at hyl hraw
  clear ey
  have hys : y.size ≤ 4096 := by rw [← len_data, hyl]; have := sl_len s.data.toList (a + 16) n; have := HN'.out; omega
  have HYL := Lib.hid hyl
  have HYS := Lib.hid hys
  clear hyl hys
  refine hraw.mono ?_
  rintro e w6 ⟨rfl, hr6, hb6⟩
  clear hraw
  have hc6 := HC.out
  rw [← hb6.block g (by omega)] at hc6
  have HC6 := Lib.hid hc6
  have HW6 := Lib.hid (HW.out.trans (hb6.mono (by omega)))
  have HR6 := Lib.hid hr6
  clear hc6 hb6 hr6 HC HW HR5
  go_wp2_with fail
  refine (rErr (g + 1) _ w6 HR6.out).mono ?_
  rintro e w7 ⟨rfl, hb7⟩
  have HC7 := Lib.hid (show w7.heap[g]? = some (.cells (frCells 0 ⟨#[]⟩ 0) 24) by rw [hb7.block g (by have := HR6.out.lt; omega)]; exact HC6.out)
  have HW7 := Lib.hid (HW6.out.trans (hb7.mono (by have := HR6.out.lt; omega)))
  have HR7 := Lib.hid (HR6.out.keep hb7 HR6.out.lt)
  clear hb7 HC6 HW6 HR6
  have f0 : IntKind.i64.wrap ((a : Int) + 12) = (a : Int) + 12 := IntWalk.i64_in _ (by omega)
  have f1 : (a : Int) ≤ (a : Int) + 12 := by omega
  have f2 : (a : Int) + 12 ≤ (s.size : Int) := by omega
  have f3 : ((a : Int) + 12).toNat = a + 12 := by omega
  have hzl : (s.extract a (a + 12)).data.toList = sl s.data.toList a 12 := sl_extract s a 12
  have hzs : (s.extract a (a + 12)).size = 12 := by rw [ByteArray.size_extract]; omega
  obtain ⟨z, ez⟩ : ∃ z, s.extract a (a + 12) = z := ⟨_, rfl⟩
  rw [ez] at hzl hzs
  have hcat : ¬ 9223372036854775807 < z.size + y.size := by have := HYS.out; omega
  have HO := Lib.hid (fun v : World => of_to (z ++ y) (crc (sl s.data.toList a 12 ++ sl s.data.toList (a + 16) n)) v (by rw [ByteArray.size_append]; have := HYS.out; omega) (by rw [data_app, hzl, HYL.out]))
  clear hzl
  obtain ⟨k, ek⟩ : ∃ k, crc (sl s.data.toList a 12 ++ sl s.data.toList (a + 16) n) = k := ⟨_, rfl⟩
  have hsum : (fSum s.data.toList a ↔ k = c) := by unfold fSum; rw [EN.out, ek, EC.out]
  rw [ek] at HO
  have EK := Lib.hid ek
  clear ek
  rw [hsum] at hm
  have hkc : ((k.toNat : Int) != (c.toNat : Int)) = true := by
    rw [bne_iff_ne]; exact fun e => hm (BitVec.eq_of_toNat_eq (by omega))
  clear hsum
  have HM := Lib.hid hm
  clear hm
  go_wp2_with fail
  with_reducible refine (HO.out w7).mono ?_
  rintro e w8 ⟨rfl, hb8⟩
  have HC := Lib.hid (show w8.heap[g]? = some (.cells (frCells 0 ⟨#[]⟩ 0) 24) by rw [hb8.block g (by have := HR7.out.lt; omega)]; exact HC7.out)
  have HW := Lib.hid (HW7.out.trans (hb8.mono (by have := HR7.out.lt; omega)))
  have HR := Lib.hid (HR7.out.keep hb8 HR7.out.lt)
  clear hb8 HC7 HW7 HR7
  obtain ⟨k0, k1, k2, l0, l1, l2⟩ := fr_cells HC.out
  go_wp2_with fail
  have eg := EG.out
  subst eg
  refine bodyPost_ret_by (results_frame _ _ w.heap.size 0 ⟨#[]⟩ 0 (.int .i64 0) (.int .i64 42) rfl (fr_stored HC.out) rfl rfl) rfl ⟨rfl, fr_below HW.out _ _ _⟩

set_option maxHeartbeats 2000000 in
theorem read_good (s : ByteArray) (a : Nat) (w : World) (hs : s.size ≤ 1000000) (ha : a + 16 ≤ s.size) (h : 1 ≤ fN s.data.toList a) (h' : fN s.data.toList a ≤ 4096) (hq : fQ s.data.toList a < 1048576) (hl : a + 16 + fN s.data.toList a ≤ s.size) (hm : fSum s.data.toList a) :
    Calls Try.prog 10 #[.string s, .int .i64 a] w
      fun e w' => e = .returned (.tuple #[frV (fQ s.data.toList a) (bs (sl s.data.toList (a + 16) (fN s.data.toList a))) a, .int .i64 ((a + 16 + fN s.data.toList a : Nat) : Int), .int .i64 0]) ∧ Below w.heap.size w w' := by
  have d1 : decide ((a : Int) < 0) = false := decide_eq_false (by omega)
  have d2 : decide (s.size < a) = false := decide_eq_false (by omega)
  have b0 : (0 : Int) ≤ (a : Int) := by omega
  have b1 : (a : Int) ≤ (s.size : Int) := by omega
  have hx : (s.extract a s.size).size = s.size - a := by rw [ByteArray.size_extract]; omega
  have hxl : (s.extract a s.size).data.toList = s.data.toList.drop a := drop_extract s a
  obtain ⟨x, ex⟩ : ∃ x, s.extract a s.size = x := ⟨_, rfl⟩
  rw [ex] at hx hxl
  obtain ⟨T1, T2, T3, T4⟩ := after16 x (by omega)
  have F0 := Lib.hid (show (Rd.mk x 0 0 0).fine from ⟨by show x.size ≤ 1000000; omega, Nat.zero_le _⟩)
  have N0 := Lib.hid (read_n s x a hxl)
  have N1 := Lib.hid (read_q s x a hxl)
  have N2 := Lib.hid (read_c s x a hxl)
  have HX := Lib.hid hx
  have HXL := Lib.hid hxl
  have hn4 := Lib.hid (fN_lt s.data.toList a)
  have hq8 := Lib.hid (fQ_lt s.data.toList a)
  clear hx hxl
  go_enter Try.func10, Try.ntmps10
  go_wp2_with fail
  obtain ⟨w0, ew0⟩ : ∃ z, w.alloc (.cells #[.int .i64 0, .string ⟨#[]⟩, .int .i64 0] 24) = z := ⟨_, rfl⟩
  have hr0 : w0.heap[w.heap.size]? = some (.cells (frCells 0 ⟨#[]⟩ 0) 24) := by rw [← ew0]; exact heap_alloc_new _ _
  have hz0 : w0.heap.size = w.heap.size + 1 := by rw [← ew0]; simp
  have hb0 : Below w.heap.size w w0 := by rw [← ew0]; exact (Below.refl _ _).alloc (Nat.le_refl _) _
  rw [ew0]
  clear ew0
  obtain ⟨g, eg⟩ : ∃ g, w.heap.size = g := ⟨_, rfl⟩
  rw [eg] at hr0 hz0 hb0 ⊢
  have HR0 := Lib.hid hr0
  have HZ0 := Lib.hid hz0
  have HB0 := Lib.hid hb0
  have EG := Lib.hid eg
  clear hr0 hz0 hb0 eg
  refine (rNew x w0).mono ?_
  rintro e w1 ⟨rfl, hr1, hb1⟩
  rw [HZ0.out] at hr1 hb1 ⊢
  have HB1 := Lib.hid hb1
  go_wp2_with fail
  refine (rU32 (g + 1) _ w1 F0.out hr1).mono ?_
  rintro e w2 ⟨rfl, hr2, hb2⟩
  have HB2 := Lib.hid (HB1.out.trans hb2)
  clear hr1 hb1 HB1 hb2
  rw [T2, N0.out]
  obtain ⟨n, en⟩ : ∃ n, fN s.data.toList a = n := ⟨_, rfl⟩
  rw [en] at hn4 ⊢
  have EN := Lib.hid en
  clear en
  go_wp2_with fail
  refine (rU64 (g + 1) _ w2 (F0.out.next 4) hr2).mono ?_
  rintro e w3 ⟨rfl, hr3, hb3⟩
  have HB3 := Lib.hid (HB2.out.trans hb3)
  clear hr2 HB2 hb3
  rw [T3, N1.out]
  obtain ⟨q, eq⟩ : ∃ n, fQ s.data.toList a = n := ⟨_, rfl⟩
  rw [eq] at hq8 ⊢
  have EQ := Lib.hid eq
  clear eq
  go_wp2_with fail
  refine (rLow (g + 1) _ w3 ((F0.out.next 4).next 8) hr3).mono ?_
  rintro e w4 ⟨rfl, hr4, hb4⟩
  have HB4 := Lib.hid (HB3.out.trans hb4)
  clear hr3 HB3 hb4
  rw [T4, N2.out]
  obtain ⟨c, ec⟩ : ∃ c, lowN (sl s.data.toList (a + 12) 4) = c := ⟨_, rfl⟩
  rw [ec]
  have EC := Lib.hid ec
  clear ec
  rw [T1] at hr4
  clear T1 T2 T3 T4 N0 N1 N2
  have HR4 := Lib.hid hr4
  clear hr4
  go_wp2_with fail
  refine (rErr (g + 1) _ w4 HR4.out).mono ?_
  rintro e w5 ⟨rfl, hb5⟩
  have HB5 := Lib.hid (HB4.out.trans (hb5.mono (by have := HR4.out.lt; omega)))
  have HR5 := Lib.hid (HR4.out.keep hb5 HR4.out.lt)
  clear HB4 hb5 HR4
  have HC := Lib.hid (show w5.heap[g]? = some (.cells (frCells 0 ⟨#[]⟩ 0) 24) by rw [HB5.out.block g (by omega)]; exact HR0.out)
  have HW := Lib.hid (show Below g w w5 from HB0.out.trans (HB5.out.mono (by omega)))
  clear HB5 HR0 HB0 HZ0
  rw [EN.out] at h h'
  have d3 : decide ((4096 : Int) < (n : Int)) = false := decide_eq_false (by omega)
  have hwn : IntKind.i64.wrap (n : Int) = (n : Int) := IntWalk.i64_in _ (by omega)
  have HN := Lib.hid h
  have HN' := Lib.hid h'
  clear h h'
  go_wp2_with fail
  refine (length_any n _).mono ?_
  rintro e w' ⟨rfl, rfl⟩
  have d4 : decide (lenOk (n : Int)) = true := decide_eq_true (by have := HN.out; have := HN'.out; unfold lenOk; omega)
  rw [d4]
  rw [EQ.out] at hq
  have d5 : decide ((1048576 : Int) ≤ (q : Int)) = false := decide_eq_false (by omega)
  have HQ := Lib.hid hq
  clear hq
  go_wp2_with fail
  have hcan : (Rd.mk x 16 0 0).can n := by
    have := HX.out
    rw [EN.out] at hl
    exact ⟨rfl, by show 16 + n ≤ x.size; omega⟩
  have e1 : (Rd.mk x 16 0 0).took n = x.extract 16 (16 + n) := by unfold Rd.took; rw [if_pos hcan]
  have e2 : (Rd.mk x 16 0 0).after n = ⟨x, 16 + n, 0, 0⟩ := by unfold Rd.after; rw [if_pos hcan]
  have hraw := rRaw (g + 1) ⟨x, 16, 0, 0⟩ n w5 ⟨F0.out.1, by have := HX.out; show 16 ≤ x.size; omega⟩ (by have := HN'.out; omega) HR5.out
  rw [e1, e2] at hraw
  clear e1 e2 hcan
  have hyl : (x.extract 16 (16 + n)).data.toList = sl s.data.toList (a + 16) n := ext_sl s x a 16 n HXL.out
  obtain ⟨y, ey⟩ : ∃ y, x.extract 16 (16 + n) = y := ⟨_, rfl⟩
  rw [ey] at hyl hraw
  clear ey
  have hys : y.size ≤ 4096 := by rw [← len_data, hyl]; have := sl_len s.data.toList (a + 16) n; have := HN'.out; omega
  have HYL := Lib.hid hyl
  have HYS := Lib.hid hys
  clear hyl hys
  refine hraw.mono ?_
  rintro e w6 ⟨rfl, hr6, hb6⟩
  clear hraw
  have hc6 := HC.out
  rw [← hb6.block g (by omega)] at hc6
  have HC6 := Lib.hid hc6
  have HW6 := Lib.hid (HW.out.trans (hb6.mono (by omega)))
  have HR6 := Lib.hid hr6
  clear hc6 hb6 hr6 HC HW HR5
  go_wp2_with fail
  refine (rErr (g + 1) _ w6 HR6.out).mono ?_
  rintro e w7 ⟨rfl, hb7⟩
  have HC7 := Lib.hid (show w7.heap[g]? = some (.cells (frCells 0 ⟨#[]⟩ 0) 24) by rw [hb7.block g (by have := HR6.out.lt; omega)]; exact HC6.out)
  have HW7 := Lib.hid (HW6.out.trans (hb7.mono (by have := HR6.out.lt; omega)))
  have HR7 := Lib.hid (HR6.out.keep hb7 HR6.out.lt)
  clear hb7 HC6 HW6 HR6
  have f0 : IntKind.i64.wrap ((a : Int) + 12) = (a : Int) + 12 := IntWalk.i64_in _ (by omega)
  have f1 : (a : Int) ≤ (a : Int) + 12 := by omega
  have f2 : (a : Int) + 12 ≤ (s.size : Int) := by omega
  have f3 : ((a : Int) + 12).toNat = a + 12 := by omega
  have hzl : (s.extract a (a + 12)).data.toList = sl s.data.toList a 12 := sl_extract s a 12
  have hzs : (s.extract a (a + 12)).size = 12 := by rw [ByteArray.size_extract]; omega
  obtain ⟨z, ez⟩ : ∃ z, s.extract a (a + 12) = z := ⟨_, rfl⟩
  rw [ez] at hzl hzs
  have hcat : ¬ 9223372036854775807 < z.size + y.size := by have := HYS.out; omega
  have HO := Lib.hid (fun v : World => of_to (z ++ y) (crc (sl s.data.toList a 12 ++ sl s.data.toList (a + 16) n)) v (by rw [ByteArray.size_append]; have := HYS.out; omega) (by rw [data_app, hzl, HYL.out]))
  clear hzl
  obtain ⟨k, ek⟩ : ∃ k, crc (sl s.data.toList a 12 ++ sl s.data.toList (a + 16) n) = k := ⟨_, rfl⟩
  have hsum : (fSum s.data.toList a ↔ k = c) := by unfold fSum; rw [EN.out, ek, EC.out]
  rw [ek] at HO
  have EK := Lib.hid ek
  clear ek
  rw [hsum] at hm
  have hkc : ((k.toNat : Int) != (c.toNat : Int)) = false := by
    rw [hm]; simp
  clear hsum
  have HM := Lib.hid hm
  clear hm
  go_wp2_with fail
  with_reducible refine (HO.out w7).mono ?_
  rintro e w8 ⟨rfl, hb8⟩
  have HC := Lib.hid (show w8.heap[g]? = some (.cells (frCells 0 ⟨#[]⟩ 0) 24) by rw [hb8.block g (by have := HR7.out.lt; omega)]; exact HC7.out)
  have HW := Lib.hid (HW7.out.trans (hb8.mono (by have := HR7.out.lt; omega)))
  have HR := Lib.hid (HR7.out.keep hb8 HR7.out.lt)
  clear hb8 HC7 HW7 HR7
  have hwq : IntKind.i64.wrap (q : Int) = (q : Int) := IntWalk.i64_in _ (by have := HQ.out; omega)
  have hwa : IntKind.i64.wrap ((a : Int) + ((16 + n : Nat) : Int)) = ((a + 16 + n : Nat) : Int) := by rw [IntWalk.i64_in _ (by have := HN'.out; omega)]; omega
  go_wp2_with fail
  refine (rAt (g + 1) _ w8 HR.out).mono ?_
  rintro e w9 ⟨rfl, rfl⟩
  obtain ⟨k0, k1, k2, l0, l1, l2⟩ := fr_cells HC.out
  clear hwa
  go_wp2_with fail
  have eg := EG.out
  subst eg
  have hwa : wrap64 ((a : Int) + (16 + (n : Int))) = ((a + 16 + n : Nat) : Int) := by
    have : wrap64 ((a : Int) + (16 + (n : Int))) = (a : Int) + (16 + (n : Int)) := IntWalk.wrap64_in _ (by have := HN'.out; omega)
    rw [this]; omega
  refine bodyPost_ret_by (results_frame _ _ w.heap.size q y a (.int .i64 (wrap64 ((a : Int) + (16 + (n : Int))))) (.int .i64 0) rfl (fr_stored HC.out) rfl rfl) rfl ⟨?_, fr_below HW.out _ _ _⟩
  rw [EQ.out, EN.out, ← HYL.out, bs_of, hwa]

theorem read_any (s : ByteArray) (at_ : Int) (w : World) (hs : s.size ≤ 1000000) :
    Calls Try.prog 10 #[.string s, .int .i64 at_] w fun e w' => e = .returned (readV s at_) ∧ Below w.heap.size w w' := by
  have hl : s.data.toList.length = s.size := rfl
  unfold readV rdE fE
  rw [hl]
  by_cases h0 : at_ < 0 ∨ (s.size : Int) < at_
  · rw [if_pos h0]; exact read_arg s at_ w h0
  rw [if_neg h0]
  obtain ⟨a, rfl⟩ : ∃ a : Nat, at_ = a := ⟨at_.toNat, by omega⟩
  rw [Int.toNat_natCast]
  by_cases h1 : s.size < a + 16
  · rw [if_pos h1]; exact read_short s a w hs (by omega) h1
  rw [if_neg h1]
  by_cases h2 : fOk s.data.toList a
  · rw [if_neg (not_not_intro h2)]
    obtain ⟨⟨k1, k2⟩, k3⟩ := h2
    by_cases h3 : s.size < a + 16 + fN s.data.toList a
    · rw [if_pos h3]; exact read_cut s a w hs (by omega) k1 k2 k3 h3
    rw [if_neg h3]
    by_cases h4 : fSum s.data.toList a
    · rw [if_neg (not_not_intro h4)]; exact read_good s a w hs (by omega) k1 k2 k3 (by omega) h4
    · rw [if_pos h4]; exact read_sum s a w hs (by omega) k1 k2 k3 (by omega) h4
  · rw [if_pos h2]
    by_cases k1 : fN s.data.toList a = 0
    · exact read_zero s a w hs (by omega) k1
    by_cases k2 : 4096 < fN s.data.toList a
    · exact read_big s a w hs (by omega) k2
    by_cases k3 : 1048576 ≤ fQ s.data.toList a
    · exact read_seq s a w hs (by omega) (by omega) (by omega) k3
    · exact absurd ⟨⟨by omega, by omega⟩, by omega⟩ h2

end Go.Proofs.Ytkgcjelipllpdaa
