/- The walk over FrameOne. -/
import Derived.Test.YtkgcjelipllpdaaFrameLaw
import Derived.BigRegion
import Derived.BigQuiet
namespace Go.Proofs.Ytkgcjelipllpdaa
open Go.RowKit

set_option maxHeartbeats 1000000 in
theorem one_long (s : ByteArray) (a : Int) (w : World) (h : 12000 < s.size) :
    Calls Try.prog 8 #[.string s, .int .i64 a] w fun e w' => e = .returned (.bool true) ∧ Below w.heap.size w w' := by
  have d1 : decide ((12000 : Int) < (s.size : Int)) = true := decide_eq_true (by omega)
  go_enter Try.func8, Try.ntmps8
  go_wp2_with fail
  refine (works_any w).mono ?_
  rintro e w1 ⟨rfl, hb1⟩
  go_wp2_with fail
  refine (works_any w1).mono ?_
  rintro e w2 ⟨rfl, hb2⟩
  go_wp2_with fail
  go_ret
  exact ⟨rfl, bel_trans hb1 hb2⟩

set_option maxHeartbeats 1000000 in
theorem one_bad (s : ByteArray) (a : Int) (w : World) (hs : s.size ≤ 12000) (h : rdE s.data.toList a ≠ 0) :
    Calls Try.prog 8 #[.string s, .int .i64 a] w fun e w' => e = .returned (.bool true) ∧ Below w.heap.size w w' := by
  have d1 : decide ((12000 : Int) < (s.size : Int)) = false := decide_eq_false (by omega)
  have hr := fun w => read_any s a w (by omega)
  unfold readV at hr
  rw [if_neg h] at hr
  obtain ⟨e, ee⟩ : ∃ e, rdE s.data.toList a = e := ⟨_, rfl⟩
  rw [ee] at hr h
  have d2 : ((e : Int) != 0) = true := by rw [bne_iff_ne]; omega
  unfold frV frCells at hr
  have HR := Lib.hid hr
  clear hr
  go_enter Try.func8, Try.ntmps8
  go_wp2_with fail
  refine (works_any w).mono ?_
  rintro e w1 ⟨rfl, hb1⟩
  go_wp2_with fail
  refine (HR.out w1).mono ?_
  rintro e w2 ⟨rfl, hb2⟩
  go_wp2_with fail
  go_ret
  exact ⟨rfl, bel_alloc (bel_trans hb1 hb2) _⟩

set_option maxHeartbeats 2000000 in
theorem one_good (s : ByteArray) (p : Nat) (w : World) (hs : s.size ≤ 12000) (hp : p ≤ s.size) (h : fE s.data.toList p = 0) :
    Calls Try.prog 8 #[.string s, .int .i64 p] w fun e w' => e = .returned (.bool true) ∧ Below w.heap.size w w' := by
  have hls : s.data.toList.length = s.size := rfl
  have d1 : decide ((12000 : Int) < (s.size : Int)) = false := decide_eq_false (by omega)
  obtain ⟨g1, ⟨⟨n1, n2⟩, q1⟩, g3, g4⟩ := fE_zero h
  obtain ⟨b1, b2⟩ := frame_back _ _ h
  have hr := fun w => read_any s p w (by omega)
  rw [readV_good s p hp h] at hr
  unfold frAt frV frCells at hr
  obtain ⟨n, en⟩ : ∃ n, fN s.data.toList p = n := ⟨_, rfl⟩
  have em : fNext s.data.toList p = p + 16 + n := by unfold fNext; rw [en]
  rw [em] at hr g3
  rw [en] at hr b1 b2 n1 n2
  obtain ⟨q, eq⟩ : ∃ q, fQ s.data.toList p = q := ⟨_, rfl⟩
  rw [eq] at hr b1 q1
  obtain ⟨y, ey⟩ : ∃ y, bs (sl s.data.toList (p + 16) n) = y := ⟨_, rfl⟩
  rw [ey] at hr
  have hy : y.data.toList = sl s.data.toList (p + 16) n := by rw [← ey, bs_data]
  have hyn : y.size = n := by rw [← len_data, hy]; exact b2
  obtain ⟨m, emm⟩ : ∃ m, p + 16 + n = m := ⟨_, rfl⟩
  rw [emm] at hr g3
  have hmE : mkE (q : Int) y = 0 := by unfold mkE; rw [if_neg (by omega), if_neg (by omega), if_neg (by omega)]
  have hmS : mkS (q : Int) y = bs (sl s.data.toList p (16 + n)) := by unfold mkS; rw [if_pos hmE, Int.toNat_natCast, hy, b1]
  have hk := fun w => make_any q y w (by omega)
  rw [hmE, hmS] at hk
  obtain ⟨t, et⟩ : ∃ t, bs (sl s.data.toList p (16 + n)) = t := ⟨_, rfl⟩
  rw [et] at hk
  have ht : t.data.toList = sl s.data.toList p (16 + n) := by rw [← et, bs_data]
  have hts : t.size = 16 + n := by rw [← len_data, ht]; exact sl_length _ _ _ (by omega)
  have x1 : (s.extract p m).toList = t.toList := by
    rw [ByteArray.toList_eq, ByteArray.toList_eq, ht, ← emm, show p + 16 + n = p + (16 + n) by omega, sl_extract]
  have x2 : IntKind.i64.wrap ((p : Int) + (t.size : Int)) = (m : Int) := by rw [IntWalk.i64_in _ (by omega)]; omega
  have x3 : (0 : Int) ≤ (p : Int) := by omega
  have x4 : (p : Int) ≤ (m : Int) := by omega
  have x5 : (m : Int) ≤ (s.size : Int) := by omega
  have x6 : szOf (y.size : Int) = (t.size : Int) := by unfold szOf; rw [if_pos (by unfold lenOk; omega)]; omega
  have HR := Lib.hid hr
  have HK := Lib.hid hk
  have X6 := Lib.hid x6
  clear hr hk hmE hmS b1 b2 en em eq ey hy et ht x6 n1 n2 q1 g1 g4 hyn hts emm g3 hls h hp
  go_enter Try.func8, Try.ntmps8
  go_wp2_with fail
  refine (works_any w).mono ?_
  rintro e w1 ⟨rfl, hb1⟩
  go_wp2_with fail
  refine (HR.out w1).mono ?_
  rintro e w2 ⟨rfl, hb2⟩
  go_wp2_with fail
  refine (HK.out _).mono ?_
  rintro e w3 ⟨rfl, hb3⟩
  have c0 : w3.heap[w2.heap.size]? = some (.cells (frCells q y p) 24) := (hb3.block _ (by simp)).trans (heap_alloc_new _ _)
  obtain ⟨k0, k1, k2, _, _, _⟩ := fr_cells c0
  have B3 := Lib.hid (bel_trans (bel_alloc (bel_trans hb1 hb2) _) hb3)
  clear hb1 hb2 hb3 c0
  go_wp2_with (go_at_call 18; refine (size_any _ _).mono ?_; rintro e w' ⟨rfl, rfl⟩; rw [X6.out])
  go_ret
  exact ⟨rfl, B3.out⟩

theorem one_any (s : ByteArray) (a : Int) (w : World) :
    Calls Try.prog 8 #[.string s, .int .i64 a] w fun e w' => e = .returned (.bool true) ∧ Below w.heap.size w w' := by
  by_cases h : 12000 < s.size
  · exact one_long s a w h
  by_cases h2 : rdE s.data.toList a = 0
  · have hls : s.data.toList.length = s.size := rfl
    unfold rdE at h2
    by_cases h3 : a < 0 ∨ (s.data.toList.length : Int) < a
    · rw [if_pos h3] at h2; cases h2
    · rw [if_neg h3] at h2
      obtain ⟨p, rfl⟩ : ∃ p : Nat, a = p := ⟨a.toNat, by omega⟩
      exact one_good s p w (by omega) (by omega) h2
  · exact one_bad s a w (by omega) h2

end Go.Proofs.Ytkgcjelipllpdaa
