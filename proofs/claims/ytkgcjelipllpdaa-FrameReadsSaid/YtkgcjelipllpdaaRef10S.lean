/- The walk over soukref10.Read (printed by gen_rread.py). -/
import Derived.Test.YtkgcjelipllpdaaRef10R
namespace Go.Proofs.Ytkgcjelipllpdaa
open Go.RowKit

theorem number_to (s : ByteArray) (p k : Nat) (a m : Int) (hp : (p : Int) = a) (hm : (k : Int) = m) (w : World) (hs : s.size ≤ 1000000) (hk : k ≤ 8) (ha : p + k ≤ s.size) (n : Nat) (hn : num (sl s.data.toList p k) = n) :
    Calls Try.prog 30 #[.string s, .int .i64 a, .int .i64 m] w fun e w' => e = .returned (.int .u64 n) ∧ Below w.heap.size w w' := by
  subst hp hm hn; exact number_any s p k w hs hk ha
theorem rfr_size : (Try.prog.info? 28).map (·.size) = some 3 := by kernel_rfl
theorem results_rframe (tmps : Array Value) (w : World) (g q : Nat) (p : ByteArray) (at_ : Int) (u v : Value) (hp : tmps.getD 4 undef = .pointer (some ⟨g, 0, none⟩)) (hg : w.heap[g]? = some (.cells (frCells q p at_) 28))
    (hu : tmps.getD 5 undef = u) (hv : tmps.getD 6 undef = v) :
    (results Try.f11 tmps).run Try.prog w = .ok (.tuple #[frV q p at_, u, v]) w := by
  have hp' : tmps[4]?.getD undef = .pointer (some ⟨g, 0, none⟩) := by simpa using hp
  subst hu hv
  simp [results, hp', asAddr, run_loadVar_row w g 28 28 (frCells q p at_) (0, 0) _ hg Try.underlying28 rfl (by exact rfr_size), frV]
theorem rfr_stored {w : World} {g q0 q : Nat} {p0 p : ByteArray} {a0 a : Int} (h : w.heap[g]? = some (.cells (frCells q0 p0 a0) 28)) :
    (((w.setCell ⟨g, 0, none⟩ (.int .i64 q)).setCell ⟨g, 1, none⟩ (.string p)).setCell ⟨g, 2, none⟩ (.int .i64 a)).heap[g]? = some (.cells (frCells q p a) 28) := by
  have k0 := heap_setCell_same _ _ 0 _ _ (.int .i64 q) h
  have k1 := heap_setCell_same _ _ 1 _ _ (.string p) k0
  exact heap_setCell_same _ _ 2 _ _ (.int .i64 a) k1
theorem rfr_cells {w : World} {g q0 : Nat} {p0 : ByteArray} {a0 : Int} (h : w.heap[g]? = some (.cells (frCells q0 p0 a0) 28)) :
    w.cell? ⟨g, 0, none⟩ = some (.int .i64 q0) ∧ w.cell? ⟨g, 1, none⟩ = some (.string p0) ∧ w.cell? ⟨g, 2, none⟩ = some (.int .i64 a0) ∧ w.frozen? ⟨g, 0, none⟩ = false ∧ w.frozen? ⟨g, 1, none⟩ = false ∧ w.frozen? ⟨g, 2, none⟩ = false :=
  ⟨by rw [cell_of_row _ _ _ _ _ _ h]; rfl, by rw [cell_of_row _ _ _ _ _ _ h]; rfl, by rw [cell_of_row _ _ _ _ _ _ h]; rfl, frozen_of_row _ _ _ _ _ h, frozen_of_row _ _ _ _ _ h, frozen_of_row _ _ _ _ _ h⟩

theorem of_r (s : ByteArray) (c : BitVec 32) (w : World) (hs : s.size ≤ 1000000000) (h : crc s.data.toList = c) :
    Calls Try.prog 32 #[.string s] w fun e w' => e = .returned (.int .u32 c.toNat) ∧ w = w' := by
  subst h; exact rof_str s w hs
theorem low_r (c : BitVec 32) (t : ByteArray) (w : World) (h : bs (four c) = t) :
    Calls Try.prog 31 #[.int .u32 c.toNat] w fun e w' => e = .returned (.string t) ∧ Below w.heap.size w w' := by
  subst h; exact rlow_any c w
theorem sum_iff (l : List UInt8) (a : Nat) (h : a + 16 ≤ l.length) : fSum l a ↔ sl l (a + 12) 4 = four (crc (sl l a 12 ++ sl l (a + 16) (fN l a))) := by
  have h4 := sl_length l (a + 12) 4 (by omega)
  unfold fSum
  constructor
  · intro e; rw [e, four_low _ h4]
  · intro e; rw [e, low_four]

set_option maxHeartbeats 1000000 in
theorem rread_arg (s : ByteArray) (at_ : Int) (w : World) (h : at_ < 0 ∨ (s.size : Int) < at_) :
    Calls Try.prog 11 #[.string s, .int .i64 at_] w
      fun e w' => e = .returned (.tuple #[frV 0 ⟨#[]⟩ 0, .int .i64 0, .int .i64 1]) ∧ Below w.heap.size w w' := by
  by_cases h1 : at_ < 0
  · have d1 : decide (at_ < 0) = true := decide_eq_true h1
    go_enter Try.func11, Try.ntmps11
    go_wp2_with fail
    refine bodyPost_ret_by (results_rframe _ _ w.heap.size 0 ⟨#[]⟩ 0 (.int .i64 0) (.int .i64 1) rfl (heap_alloc_new _ _) rfl rfl) rfl ⟨rfl, (Below.refl _ _).alloc (Nat.le_refl _) _⟩
  · have d1 : decide (at_ < 0) = false := decide_eq_false h1
    have d2 : decide ((s.size : Int) < at_) = true := decide_eq_true (by omega)
    go_enter Try.func11, Try.ntmps11
    go_wp2_with fail
    refine bodyPost_ret_by (results_rframe _ _ w.heap.size 0 ⟨#[]⟩ 0 (.int .i64 0) (.int .i64 1) rfl (heap_alloc_new _ _) rfl rfl) rfl ⟨rfl, (Below.refl _ _).alloc (Nat.le_refl _) _⟩

set_option maxHeartbeats 1000000 in
theorem rread_short (s : ByteArray) (a : Nat) (w : World) (ha : a ≤ s.size) (h : s.size < a + 16) :
    Calls Try.prog 11 #[.string s, .int .i64 a] w
      fun e w' => e = .returned (.tuple #[frV 0 ⟨#[]⟩ 0, .int .i64 0, .int .i64 8]) ∧ Below w.heap.size w w' := by
  have d1 : decide ((a : Int) < 0) = false := decide_eq_false (by omega)
  have d2 : decide (s.size < a) = false := decide_eq_false (by omega)
  have d3 : decide ((s.size : Int) - (a : Int) < 16) = true := decide_eq_true (by omega)
  go_enter Try.func11, Try.ntmps11
  go_wp2_with fail
  refine bodyPost_ret_by (results_rframe _ _ w.heap.size 0 ⟨#[]⟩ 0 (.int .i64 0) (.int .i64 8) rfl (heap_alloc_new _ _) rfl rfl) rfl ⟨rfl, (Below.refl _ _).alloc (Nat.le_refl _) _⟩

set_option maxHeartbeats 2000000 in
theorem rread_zero (s : ByteArray) (a : Nat) (w : World) (hs : s.size ≤ 1000000) (ha : a + 16 ≤ s.size) (h : fN s.data.toList a < 1) :
    Calls Try.prog 11 #[.string s, .int .i64 a] w
      fun e w' => e = .returned (.tuple #[frV 0 ⟨#[]⟩ 0, .int .i64 0, .int .i64 4]) ∧ Below w.heap.size w w' := by
  have d1 : decide ((a : Int) < 0) = false := decide_eq_false (by omega)
  have d2 : decide (s.size < a) = false := decide_eq_false (by omega)
  have d3 : decide ((s.size : Int) - (a : Int) < 16) = false := decide_eq_false (by omega)
  obtain ⟨n, en⟩ : ∃ n, fN s.data.toList a = n := ⟨_, rfl⟩
  obtain ⟨q, eq⟩ : ∃ q, fQ s.data.toList a = q := ⟨_, rfl⟩
  have K1 := Lib.hid (fun w => number_to s a 4 (a : Int) 4 rfl rfl w hs (by omega) (by omega) n en)
  have K2 := Lib.hid (fun w => number_to s (a + 4) 8 ((a : Int) + 4) 8 (by omega) rfl w hs (by omega) (by omega) q eq)
  have d4 : decide ((n : Int) < 1) = true := decide_eq_true (by omega)
  have EN := Lib.hid en
  have EQ := Lib.hid eq
  clear en eq
  go_enter Try.func11, Try.ntmps11
  go_wp2_with fail
  obtain ⟨w0, ew0⟩ : ∃ z, w.alloc (.cells #[.int .i64 0, .string ⟨#[]⟩, .int .i64 0] 28) = z := ⟨_, rfl⟩
  have hr0 : w0.heap[w.heap.size]? = some (.cells (frCells 0 ⟨#[]⟩ 0) 28) := by rw [← ew0]; exact heap_alloc_new _ _
  have hz0 : w0.heap.size = w.heap.size + 1 := by rw [← ew0]; simp
  have hb0 : Below w.heap.size w w0 := by rw [← ew0]; exact (Below.refl _ _).alloc (Nat.le_refl _) _
  rw [ew0]
  clear ew0
  with_reducible refine (K1.out _).mono ?_
  rintro e w1 ⟨rfl, hb1⟩
  have HB1 := Lib.hid (hb0.trans (hb1.mono (by omega)))
  have HR1 := Lib.hid ((hb1.block w.heap.size (by omega)).trans hr0)
  have hz1 : w.heap.size < w1.heap.size := by have := hb1.size; omega
  clear hb0 hr0 hb1 hz0
  go_wp2_with fail
  with_reducible refine (K2.out _).mono ?_
  rintro e w2 ⟨rfl, hb2⟩
  have HB2 := Lib.hid (HB1.out.trans (hb2.mono (by omega)))
  have hr2 := (hb2.block w.heap.size (by omega)).trans HR1.out
  have HR2 := Lib.hid hr2
  obtain ⟨k0, k1, k2, l0, l1, l2⟩ := rfr_cells hr2
  clear HB1 HR1 hb2 hr2
  go_wp2_with fail
  refine bodyPost_ret_by (results_rframe _ _ w.heap.size 0 ⟨#[]⟩ 0 (.int .i64 0) (.int .i64 4) rfl (rfr_stored HR2.out) rfl rfl) rfl ⟨rfl, fr_below HB2.out _ _ _⟩

set_option maxHeartbeats 2000000 in
theorem rread_big (s : ByteArray) (a : Nat) (w : World) (hs : s.size ≤ 1000000) (ha : a + 16 ≤ s.size) (h : 4096 < fN s.data.toList a) :
    Calls Try.prog 11 #[.string s, .int .i64 a] w
      fun e w' => e = .returned (.tuple #[frV 0 ⟨#[]⟩ 0, .int .i64 0, .int .i64 4]) ∧ Below w.heap.size w w' := by
  have d1 : decide ((a : Int) < 0) = false := decide_eq_false (by omega)
  have d2 : decide (s.size < a) = false := decide_eq_false (by omega)
  have d3 : decide ((s.size : Int) - (a : Int) < 16) = false := decide_eq_false (by omega)
  obtain ⟨n, en⟩ : ∃ n, fN s.data.toList a = n := ⟨_, rfl⟩
  obtain ⟨q, eq⟩ : ∃ q, fQ s.data.toList a = q := ⟨_, rfl⟩
  have K1 := Lib.hid (fun w => number_to s a 4 (a : Int) 4 rfl rfl w hs (by omega) (by omega) n en)
  have K2 := Lib.hid (fun w => number_to s (a + 4) 8 ((a : Int) + 4) 8 (by omega) rfl w hs (by omega) (by omega) q eq)
  have d4 : decide ((n : Int) < 1) = false := decide_eq_false (by omega)
  have d5 : decide ((4096 : Int) < (n : Int)) = true := decide_eq_true (by omega)
  have EN := Lib.hid en
  have EQ := Lib.hid eq
  clear en eq
  go_enter Try.func11, Try.ntmps11
  go_wp2_with fail
  obtain ⟨w0, ew0⟩ : ∃ z, w.alloc (.cells #[.int .i64 0, .string ⟨#[]⟩, .int .i64 0] 28) = z := ⟨_, rfl⟩
  have hr0 : w0.heap[w.heap.size]? = some (.cells (frCells 0 ⟨#[]⟩ 0) 28) := by rw [← ew0]; exact heap_alloc_new _ _
  have hz0 : w0.heap.size = w.heap.size + 1 := by rw [← ew0]; simp
  have hb0 : Below w.heap.size w w0 := by rw [← ew0]; exact (Below.refl _ _).alloc (Nat.le_refl _) _
  rw [ew0]
  clear ew0
  with_reducible refine (K1.out _).mono ?_
  rintro e w1 ⟨rfl, hb1⟩
  have HB1 := Lib.hid (hb0.trans (hb1.mono (by omega)))
  have HR1 := Lib.hid ((hb1.block w.heap.size (by omega)).trans hr0)
  have hz1 : w.heap.size < w1.heap.size := by have := hb1.size; omega
  clear hb0 hr0 hb1 hz0
  go_wp2_with fail
  with_reducible refine (K2.out _).mono ?_
  rintro e w2 ⟨rfl, hb2⟩
  have HB2 := Lib.hid (HB1.out.trans (hb2.mono (by omega)))
  have hr2 := (hb2.block w.heap.size (by omega)).trans HR1.out
  have HR2 := Lib.hid hr2
  obtain ⟨k0, k1, k2, l0, l1, l2⟩ := rfr_cells hr2
  clear HB1 HR1 hb2 hr2
  go_wp2_with fail
  refine bodyPost_ret_by (results_rframe _ _ w.heap.size 0 ⟨#[]⟩ 0 (.int .i64 0) (.int .i64 4) rfl (rfr_stored HR2.out) rfl rfl) rfl ⟨rfl, fr_below HB2.out _ _ _⟩

set_option maxHeartbeats 2000000 in
theorem rread_seq (s : ByteArray) (a : Nat) (w : World) (hs : s.size ≤ 1000000) (ha : a + 16 ≤ s.size) (g1 : 1 ≤ fN s.data.toList a) (g2 : fN s.data.toList a ≤ 4096) (h : 1048576 ≤ fQ s.data.toList a) :
    Calls Try.prog 11 #[.string s, .int .i64 a] w
      fun e w' => e = .returned (.tuple #[frV 0 ⟨#[]⟩ 0, .int .i64 0, .int .i64 4]) ∧ Below w.heap.size w w' := by
  have d1 : decide ((a : Int) < 0) = false := decide_eq_false (by omega)
  have d2 : decide (s.size < a) = false := decide_eq_false (by omega)
  have d3 : decide ((s.size : Int) - (a : Int) < 16) = false := decide_eq_false (by omega)
  obtain ⟨n, en⟩ : ∃ n, fN s.data.toList a = n := ⟨_, rfl⟩
  obtain ⟨q, eq⟩ : ∃ q, fQ s.data.toList a = q := ⟨_, rfl⟩
  have K1 := Lib.hid (fun w => number_to s a 4 (a : Int) 4 rfl rfl w hs (by omega) (by omega) n en)
  have K2 := Lib.hid (fun w => number_to s (a + 4) 8 ((a : Int) + 4) 8 (by omega) rfl w hs (by omega) (by omega) q eq)
  have d4 : decide ((n : Int) < 1) = false := decide_eq_false (by omega)
  have d5 : decide ((4096 : Int) < (n : Int)) = false := decide_eq_false (by omega)
  have d6 : decide ((1048576 : Int) ≤ (q : Int)) = true := decide_eq_true (by omega)
  have EN := Lib.hid en
  have EQ := Lib.hid eq
  clear en eq
  go_enter Try.func11, Try.ntmps11
  go_wp2_with fail
  obtain ⟨w0, ew0⟩ : ∃ z, w.alloc (.cells #[.int .i64 0, .string ⟨#[]⟩, .int .i64 0] 28) = z := ⟨_, rfl⟩
  have hr0 : w0.heap[w.heap.size]? = some (.cells (frCells 0 ⟨#[]⟩ 0) 28) := by rw [← ew0]; exact heap_alloc_new _ _
  have hz0 : w0.heap.size = w.heap.size + 1 := by rw [← ew0]; simp
  have hb0 : Below w.heap.size w w0 := by rw [← ew0]; exact (Below.refl _ _).alloc (Nat.le_refl _) _
  rw [ew0]
  clear ew0
  with_reducible refine (K1.out _).mono ?_
  rintro e w1 ⟨rfl, hb1⟩
  have HB1 := Lib.hid (hb0.trans (hb1.mono (by omega)))
  have HR1 := Lib.hid ((hb1.block w.heap.size (by omega)).trans hr0)
  have hz1 : w.heap.size < w1.heap.size := by have := hb1.size; omega
  clear hb0 hr0 hb1 hz0
  go_wp2_with fail
  with_reducible refine (K2.out _).mono ?_
  rintro e w2 ⟨rfl, hb2⟩
  have HB2 := Lib.hid (HB1.out.trans (hb2.mono (by omega)))
  have hr2 := (hb2.block w.heap.size (by omega)).trans HR1.out
  have HR2 := Lib.hid hr2
  obtain ⟨k0, k1, k2, l0, l1, l2⟩ := rfr_cells hr2
  clear HB1 HR1 hb2 hr2
  go_wp2_with fail
  refine bodyPost_ret_by (results_rframe _ _ w.heap.size 0 ⟨#[]⟩ 0 (.int .i64 0) (.int .i64 4) rfl (rfr_stored HR2.out) rfl rfl) rfl ⟨rfl, fr_below HB2.out _ _ _⟩

set_option maxHeartbeats 2000000 in
theorem rread_cut (s : ByteArray) (a : Nat) (w : World) (hs : s.size ≤ 1000000) (ha : a + 16 ≤ s.size) (g1 : 1 ≤ fN s.data.toList a) (g2 : fN s.data.toList a ≤ 4096) (g3 : fQ s.data.toList a < 1048576) (h : s.size < a + 16 + fN s.data.toList a) :
    Calls Try.prog 11 #[.string s, .int .i64 a] w
      fun e w' => e = .returned (.tuple #[frV 0 ⟨#[]⟩ 0, .int .i64 0, .int .i64 8]) ∧ Below w.heap.size w w' := by
  have d1 : decide ((a : Int) < 0) = false := decide_eq_false (by omega)
  have d2 : decide (s.size < a) = false := decide_eq_false (by omega)
  have d3 : decide ((s.size : Int) - (a : Int) < 16) = false := decide_eq_false (by omega)
  obtain ⟨n, en⟩ : ∃ n, fN s.data.toList a = n := ⟨_, rfl⟩
  obtain ⟨q, eq⟩ : ∃ q, fQ s.data.toList a = q := ⟨_, rfl⟩
  have K1 := Lib.hid (fun w => number_to s a 4 (a : Int) 4 rfl rfl w hs (by omega) (by omega) n en)
  have K2 := Lib.hid (fun w => number_to s (a + 4) 8 ((a : Int) + 4) 8 (by omega) rfl w hs (by omega) (by omega) q eq)
  have d4 : decide ((n : Int) < 1) = false := decide_eq_false (by omega)
  have d5 : decide ((4096 : Int) < (n : Int)) = false := decide_eq_false (by omega)
  have d6 : decide ((1048576 : Int) ≤ (q : Int)) = false := decide_eq_false (by omega)
  have d7 : ((n : Int) % 18446744073709551616) = n := by omega
  have hn4 : (n : Int) ≤ 4096 := by omega
  have hq4 : (q : Int) ≤ 1048576 := by omega
  have d8 : decide ((s.size : Int) < (a : Int) + 16 + (n : Int)) = true := decide_eq_true (by omega)
  have EN := Lib.hid en
  have EQ := Lib.hid eq
  clear en eq d7
  go_enter Try.func11, Try.ntmps11
  go_wp2_with fail
  obtain ⟨w0, ew0⟩ : ∃ z, w.alloc (.cells #[.int .i64 0, .string ⟨#[]⟩, .int .i64 0] 28) = z := ⟨_, rfl⟩
  have hr0 : w0.heap[w.heap.size]? = some (.cells (frCells 0 ⟨#[]⟩ 0) 28) := by rw [← ew0]; exact heap_alloc_new _ _
  have hz0 : w0.heap.size = w.heap.size + 1 := by rw [← ew0]; simp
  have hb0 : Below w.heap.size w w0 := by rw [← ew0]; exact (Below.refl _ _).alloc (Nat.le_refl _) _
  rw [ew0]
  clear ew0
  with_reducible refine (K1.out _).mono ?_
  rintro e w1 ⟨rfl, hb1⟩
  have HB1 := Lib.hid (hb0.trans (hb1.mono (by omega)))
  have HR1 := Lib.hid ((hb1.block w.heap.size (by omega)).trans hr0)
  have hz1 : w.heap.size < w1.heap.size := by have := hb1.size; omega
  clear hb0 hr0 hb1 hz0
  go_wp2_with fail
  with_reducible refine (K2.out _).mono ?_
  rintro e w2 ⟨rfl, hb2⟩
  have HB2 := Lib.hid (HB1.out.trans (hb2.mono (by omega)))
  have hr2 := (hb2.block w.heap.size (by omega)).trans HR1.out
  have HR2 := Lib.hid hr2
  obtain ⟨k0, k1, k2, l0, l1, l2⟩ := rfr_cells hr2
  clear HB1 HR1 hb2 hr2
  go_wp2_with fail
  refine bodyPost_ret_by (results_rframe _ _ w.heap.size 0 ⟨#[]⟩ 0 (.int .i64 0) (.int .i64 8) rfl (rfr_stored HR2.out) rfl rfl) rfl ⟨rfl, fr_below HB2.out _ _ _⟩

set_option maxHeartbeats 2000000 in
theorem rread_sum (s : ByteArray) (a : Nat) (w : World) (hs : s.size ≤ 1000000) (ha : a + 16 ≤ s.size) (g1 : 1 ≤ fN s.data.toList a) (g2 : fN s.data.toList a ≤ 4096) (g3 : fQ s.data.toList a < 1048576) (hend : a + 16 + fN s.data.toList a ≤ s.size) (h : ¬ fSum s.data.toList a) :
    Calls Try.prog 11 #[.string s, .int .i64 a] w
      fun e w' => e = .returned (.tuple #[frV 0 ⟨#[]⟩ 0, .int .i64 0, .int .i64 42]) ∧ Below w.heap.size w w' := by
  have d1 : decide ((a : Int) < 0) = false := decide_eq_false (by omega)
  have d2 : decide (s.size < a) = false := decide_eq_false (by omega)
  have d3 : decide ((s.size : Int) - (a : Int) < 16) = false := decide_eq_false (by omega)
  obtain ⟨n, en⟩ : ∃ n, fN s.data.toList a = n := ⟨_, rfl⟩
  obtain ⟨q, eq⟩ : ∃ q, fQ s.data.toList a = q := ⟨_, rfl⟩
  have K1 := Lib.hid (fun w => number_to s a 4 (a : Int) 4 rfl rfl w hs (by omega) (by omega) n en)
  have K2 := Lib.hid (fun w => number_to s (a + 4) 8 ((a : Int) + 4) 8 (by omega) rfl w hs (by omega) (by omega) q eq)
  have d4 : decide ((n : Int) < 1) = false := decide_eq_false (by omega)
  have d5 : decide ((4096 : Int) < (n : Int)) = false := decide_eq_false (by omega)
  have d6 : decide ((1048576 : Int) ≤ (q : Int)) = false := decide_eq_false (by omega)
  have d7 : ((n : Int) % 18446744073709551616) = n := by omega
  have hn4 : (n : Int) ≤ 4096 := by omega
  have hq4 : (q : Int) ≤ 1048576 := by omega
  have d8 : decide ((s.size : Int) < (a : Int) + 16 + (n : Int)) = false := decide_eq_false (by omega)
  have hsum := sum_iff s.data.toList a (by rw [len_data]; omega)
  rw [en] at hsum
  obtain ⟨p, ep⟩ : ∃ p, s.extract (a + 16) (a + 16 + n) = p := ⟨_, rfl⟩
  have hpd : p.data.toList = sl s.data.toList (a + 16) n := by rw [← ep, sl_extract]
  have hps : p.size = n := by rw [← len_data, hpd]; exact sl_length _ _ _ (by rw [len_data]; omega)
  obtain ⟨hd, ehd⟩ : ∃ p, s.extract a (a + 12) = p := ⟨_, rfl⟩
  have hhd : hd.data.toList = sl s.data.toList a 12 := by rw [← ehd, sl_extract]
  have hhs : hd.size = 12 := by rw [← len_data, hhd]; exact sl_length _ _ _ (by rw [len_data]; omega)
  obtain ⟨ck, eck⟩ : ∃ p, s.extract (a + 12) (a + 16) = p := ⟨_, rfl⟩
  have hck : ck.data.toList = sl s.data.toList (a + 12) 4 := by rw [← eck, show a + 16 = (a + 12) + 4 by omega, sl_extract]
  obtain ⟨c, ec⟩ : ∃ c, crc (hd ++ p).data.toList = c := ⟨_, rfl⟩
  have hc : crc (sl s.data.toList a 12 ++ sl s.data.toList (a + 16) n) = c := by rw [← ec, data_app, hhd, hpd]
  rw [hc, ← hck] at hsum
  have OF := Lib.hid (fun w => of_r (hd ++ p) c w (by rw [ByteArray.size_append]; omega) ec)
  obtain ⟨t, et⟩ : ∃ t, bs (four c) = t := ⟨_, rfl⟩
  have LO := Lib.hid (fun w => low_r c t w et)
  have hcat : ¬ 9223372036854775807 < hd.size + p.size := by omega
  have s12 : IntKind.i64.wrap ((a : Int) + 12) = (a : Int) + 12 := IntWalk.i64_in _ (by omega)
  have s16 : IntKind.i64.wrap ((a : Int) + 16) = (a : Int) + 16 := IntWalk.i64_in _ (by omega)
  have t12 : ((a : Int) + 12).toNat = a + 12 := by omega
  have t16 : ((a : Int) + 16).toNat = a + 16 := by omega
  have tn : ((a : Int) + 16 + (n : Int)).toNat = a + 16 + n := by omega
  have b1 : (0 : Int) ≤ (a : Int) + 12 := by omega
  have b2 : (a : Int) + 12 ≤ (a : Int) + 16 := by omega
  have b3 : (a : Int) + 16 ≤ (s.size : Int) := by omega
  have b4 : (a : Int) ≤ (a : Int) + 12 := by omega
  have b5 : (a : Int) + 12 ≤ (s.size : Int) := by omega
  have b6 : (0 : Int) ≤ (a : Int) + 16 := by omega
  have b7 : (a : Int) + 16 ≤ (a : Int) + 16 + (n : Int) := by omega
  have b8 : (a : Int) + 16 + (n : Int) ≤ (s.size : Int) := by omega
  have hne : (ck.toList == t.toList) = false := by
    rw [beq_eq_false_iff_ne, ByteArray.toList_eq, ByteArray.toList_eq, ← et, bs_data]
    exact fun e => h (hsum.2 e)
  have HPD := Lib.hid hpd
  have EP := Lib.hid ep
  clear hpd hhd hck hc hsum et ec
  have EN := Lib.hid en
  have EQ := Lib.hid eq
  clear en eq d7
  go_enter Try.func11, Try.ntmps11
  go_wp2_with fail
  obtain ⟨w0, ew0⟩ : ∃ z, w.alloc (.cells #[.int .i64 0, .string ⟨#[]⟩, .int .i64 0] 28) = z := ⟨_, rfl⟩
  have hr0 : w0.heap[w.heap.size]? = some (.cells (frCells 0 ⟨#[]⟩ 0) 28) := by rw [← ew0]; exact heap_alloc_new _ _
  have hz0 : w0.heap.size = w.heap.size + 1 := by rw [← ew0]; simp
  have hb0 : Below w.heap.size w w0 := by rw [← ew0]; exact (Below.refl _ _).alloc (Nat.le_refl _) _
  rw [ew0]
  clear ew0
  with_reducible refine (K1.out _).mono ?_
  rintro e w1 ⟨rfl, hb1⟩
  have HB1 := Lib.hid (hb0.trans (hb1.mono (by omega)))
  have HR1 := Lib.hid ((hb1.block w.heap.size (by omega)).trans hr0)
  have hz1 : w.heap.size < w1.heap.size := by have := hb1.size; omega
  clear hb0 hr0 hb1 hz0
  go_wp2_with fail
  with_reducible refine (K2.out _).mono ?_
  rintro e w2 ⟨rfl, hb2⟩
  have HB2 := Lib.hid (HB1.out.trans (hb2.mono (by omega)))
  have hr2 := (hb2.block w.heap.size (by omega)).trans HR1.out
  have HR2 := Lib.hid hr2
  obtain ⟨k0, k1, k2, l0, l1, l2⟩ := rfr_cells hr2
  clear HB1 HR1 hb2 hr2
  go_upto_region 12 with fail
  go_region_with (first | (go_at_call 32; (with_reducible refine (OF.out _).mono ?_); rintro e w' ⟨rfl, rfl⟩) | (go_at_call 31; (with_reducible refine (LO.out _).mono ?_); rintro e w3 ⟨rfl, hb3⟩))
  have hz2 : w.heap.size < w2.heap.size := (Array.getElem?_eq_some_iff.1 HR2.out).1
  have hb3' := bel_undrew hb3
  have HB3 := Lib.hid (HB2.out.trans (hb3'.mono (by omega)))
  have hr3 := (hb3'.block w.heap.size hz2).trans HR2.out
  have HR3 := Lib.hid hr3
  obtain ⟨m0, m1, m2, o0, o1, o2⟩ := rfr_cells hr3
  clear k0 k1 k2 l0 l1 l2 hb3 hb3' hr3 HR2 HB2 s12 s16 t12 t16 tn
  go_wp2_with fail
  refine bodyPost_ret_by (results_rframe _ _ w.heap.size 0 ⟨#[]⟩ 0 (.int .i64 0) (.int .i64 42) rfl (rfr_stored HR3.out) rfl rfl) rfl ⟨rfl, fr_below HB3.out _ _ _⟩

set_option maxHeartbeats 2000000 in
theorem rread_ok (s : ByteArray) (a : Nat) (w : World) (hs : s.size ≤ 1000000) (ha : a + 16 ≤ s.size) (g1 : 1 ≤ fN s.data.toList a) (g2 : fN s.data.toList a ≤ 4096) (g3 : fQ s.data.toList a < 1048576) (hend : a + 16 + fN s.data.toList a ≤ s.size) (h : fSum s.data.toList a) :
    Calls Try.prog 11 #[.string s, .int .i64 a] w
      fun e w' => e = .returned (.tuple #[frV (fQ s.data.toList a) (bs (sl s.data.toList (a + 16) (fN s.data.toList a))) a, .int .i64 ((a + 16 + fN s.data.toList a : Nat) : Int), .int .i64 0]) ∧ Below w.heap.size w w' := by
  have d1 : decide ((a : Int) < 0) = false := decide_eq_false (by omega)
  have d2 : decide (s.size < a) = false := decide_eq_false (by omega)
  have d3 : decide ((s.size : Int) - (a : Int) < 16) = false := decide_eq_false (by omega)
  obtain ⟨n, en⟩ : ∃ n, fN s.data.toList a = n := ⟨_, rfl⟩
  obtain ⟨q, eq⟩ : ∃ q, fQ s.data.toList a = q := ⟨_, rfl⟩
  have K1 := Lib.hid (fun w => number_to s a 4 (a : Int) 4 rfl rfl w hs (by omega) (by omega) n en)
  have K2 := Lib.hid (fun w => number_to s (a + 4) 8 ((a : Int) + 4) 8 (by omega) rfl w hs (by omega) (by omega) q eq)
  have d4 : decide ((n : Int) < 1) = false := decide_eq_false (by omega)
  have d5 : decide ((4096 : Int) < (n : Int)) = false := decide_eq_false (by omega)
  have d6 : decide ((1048576 : Int) ≤ (q : Int)) = false := decide_eq_false (by omega)
  have d7 : ((n : Int) % 18446744073709551616) = n := by omega
  have hn4 : (n : Int) ≤ 4096 := by omega
  have hq4 : (q : Int) ≤ 1048576 := by omega
  have d8 : decide ((s.size : Int) < (a : Int) + 16 + (n : Int)) = false := decide_eq_false (by omega)
  have hsum := sum_iff s.data.toList a (by rw [len_data]; omega)
  rw [en] at hsum
  obtain ⟨p, ep⟩ : ∃ p, s.extract (a + 16) (a + 16 + n) = p := ⟨_, rfl⟩
  have hpd : p.data.toList = sl s.data.toList (a + 16) n := by rw [← ep, sl_extract]
  have hps : p.size = n := by rw [← len_data, hpd]; exact sl_length _ _ _ (by rw [len_data]; omega)
  obtain ⟨hd, ehd⟩ : ∃ p, s.extract a (a + 12) = p := ⟨_, rfl⟩
  have hhd : hd.data.toList = sl s.data.toList a 12 := by rw [← ehd, sl_extract]
  have hhs : hd.size = 12 := by rw [← len_data, hhd]; exact sl_length _ _ _ (by rw [len_data]; omega)
  obtain ⟨ck, eck⟩ : ∃ p, s.extract (a + 12) (a + 16) = p := ⟨_, rfl⟩
  have hck : ck.data.toList = sl s.data.toList (a + 12) 4 := by rw [← eck, show a + 16 = (a + 12) + 4 by omega, sl_extract]
  obtain ⟨c, ec⟩ : ∃ c, crc (hd ++ p).data.toList = c := ⟨_, rfl⟩
  have hc : crc (sl s.data.toList a 12 ++ sl s.data.toList (a + 16) n) = c := by rw [← ec, data_app, hhd, hpd]
  rw [hc, ← hck] at hsum
  have OF := Lib.hid (fun w => of_r (hd ++ p) c w (by rw [ByteArray.size_append]; omega) ec)
  obtain ⟨t, et⟩ : ∃ t, bs (four c) = t := ⟨_, rfl⟩
  have LO := Lib.hid (fun w => low_r c t w et)
  have hcat : ¬ 9223372036854775807 < hd.size + p.size := by omega
  have s12 : IntKind.i64.wrap ((a : Int) + 12) = (a : Int) + 12 := IntWalk.i64_in _ (by omega)
  have s16 : IntKind.i64.wrap ((a : Int) + 16) = (a : Int) + 16 := IntWalk.i64_in _ (by omega)
  have t12 : ((a : Int) + 12).toNat = a + 12 := by omega
  have t16 : ((a : Int) + 16).toNat = a + 16 := by omega
  have tn : ((a : Int) + 16 + (n : Int)).toNat = a + 16 + n := by omega
  have b1 : (0 : Int) ≤ (a : Int) + 12 := by omega
  have b2 : (a : Int) + 12 ≤ (a : Int) + 16 := by omega
  have b3 : (a : Int) + 16 ≤ (s.size : Int) := by omega
  have b4 : (a : Int) ≤ (a : Int) + 12 := by omega
  have b5 : (a : Int) + 12 ≤ (s.size : Int) := by omega
  have b6 : (0 : Int) ≤ (a : Int) + 16 := by omega
  have b7 : (a : Int) + 16 ≤ (a : Int) + 16 + (n : Int) := by omega
  have b8 : (a : Int) + 16 + (n : Int) ≤ (s.size : Int) := by omega
  have hne : (ck.toList == t.toList) = true := by
    rw [beq_iff_eq, ByteArray.toList_eq, ByteArray.toList_eq, ← et, bs_data]
    exact hsum.1 h
  have HPD := Lib.hid hpd
  have EP := Lib.hid ep
  clear hpd hhd hck hc hsum et ec
  have EN := Lib.hid en
  have EQ := Lib.hid eq
  clear en eq d7
  go_enter Try.func11, Try.ntmps11
  go_wp2_with fail
  obtain ⟨w0, ew0⟩ : ∃ z, w.alloc (.cells #[.int .i64 0, .string ⟨#[]⟩, .int .i64 0] 28) = z := ⟨_, rfl⟩
  have hr0 : w0.heap[w.heap.size]? = some (.cells (frCells 0 ⟨#[]⟩ 0) 28) := by rw [← ew0]; exact heap_alloc_new _ _
  have hz0 : w0.heap.size = w.heap.size + 1 := by rw [← ew0]; simp
  have hb0 : Below w.heap.size w w0 := by rw [← ew0]; exact (Below.refl _ _).alloc (Nat.le_refl _) _
  rw [ew0]
  clear ew0
  with_reducible refine (K1.out _).mono ?_
  rintro e w1 ⟨rfl, hb1⟩
  have HB1 := Lib.hid (hb0.trans (hb1.mono (by omega)))
  have HR1 := Lib.hid ((hb1.block w.heap.size (by omega)).trans hr0)
  have hz1 : w.heap.size < w1.heap.size := by have := hb1.size; omega
  clear hb0 hr0 hb1 hz0
  go_wp2_with fail
  with_reducible refine (K2.out _).mono ?_
  rintro e w2 ⟨rfl, hb2⟩
  have HB2 := Lib.hid (HB1.out.trans (hb2.mono (by omega)))
  have hr2 := (hb2.block w.heap.size (by omega)).trans HR1.out
  have HR2 := Lib.hid hr2
  obtain ⟨k0, k1, k2, l0, l1, l2⟩ := rfr_cells hr2
  clear HB1 HR1 hb2 hr2
  go_upto_region 12 with fail
  go_region_with (first | (go_at_call 32; (with_reducible refine (OF.out _).mono ?_); rintro e w' ⟨rfl, rfl⟩) | (go_at_call 31; (with_reducible refine (LO.out _).mono ?_); rintro e w3 ⟨rfl, hb3⟩))
  have hz2 : w.heap.size < w2.heap.size := (Array.getElem?_eq_some_iff.1 HR2.out).1
  have hb3' := bel_undrew hb3
  have HB3 := Lib.hid (HB2.out.trans (hb3'.mono (by omega)))
  have hr3 := (hb3'.block w.heap.size hz2).trans HR2.out
  have HR3 := Lib.hid hr3
  obtain ⟨m0, m1, m2, o0, o1, o2⟩ := rfr_cells hr3
  clear k0 k1 k2 l0 l1 l2 hb3 hb3' hr3 HR2 HB2 s12 s16 t12 t16 tn
  go_wp2_with fail
  rw [EN.out, EQ.out]
  refine bodyPost_ret_by (results_rframe _ _ w.heap.size q p a (.int .i64 ((a : Int) + 16 + (n : Int))) (.int .i64 0) rfl (rfr_stored HR3.out) rfl rfl) rfl ⟨?_, fr_below HB3.out _ _ _⟩
  rw [← HPD.out, bs_of]; rfl

/-- the reference's Read is what is read -/
theorem rread_any (s : ByteArray) (at_ : Int) (w : World) (hs : s.size ≤ 1000000) :
    Calls Try.prog 11 #[.string s, .int .i64 at_] w fun e w' => e = .returned (readV s at_) ∧ Below w.heap.size w w' := by
  have hl : s.data.toList.length = s.size := rfl
  by_cases h0 : at_ < 0 ∨ (s.size : Int) < at_
  · have e : rdE s.data.toList at_ = 1 := by unfold rdE; rw [hl, if_pos h0]
    unfold readV
    rw [e, if_neg (by decide)]
    exact rread_arg s at_ w h0
  obtain ⟨a, rfl⟩ : ∃ a : Nat, at_ = a := ⟨at_.toNat, by omega⟩
  by_cases hE : fE s.data.toList a = 0
  · rw [readV_good s a (by omega) hE]
    obtain ⟨g1, ⟨⟨n1, n2⟩, q1⟩, g3, g4⟩ := fE_zero hE
    exact rread_ok s a w hs (by omega) n1 n2 q1 (by have : fNext s.data.toList a ≤ s.data.toList.length := g3; unfold fNext at this; omega) g4
  rw [readV_bad s a (by omega) hE]
  unfold fE
  rw [hl]
  by_cases h1 : s.size < a + 16
  · rw [if_pos h1]; exact rread_short s a w (by omega) h1
  rw [if_neg h1]
  by_cases h2 : fOk s.data.toList a
  · rw [if_neg (not_not_intro h2)]
    obtain ⟨⟨n1, n2⟩, q1⟩ := h2
    by_cases h3 : s.size < a + 16 + fN s.data.toList a
    · rw [if_pos h3]; exact rread_cut s a w hs (by omega) n1 n2 q1 h3
    rw [if_neg h3]
    by_cases h4 : fSum s.data.toList a
    · exact absurd (by unfold fE; rw [hl, if_neg h1, if_neg (not_not_intro ⟨⟨n1, n2⟩, q1⟩), if_neg h3, if_neg (not_not_intro h4)]) hE
    · rw [if_pos h4]; exact rread_sum s a w hs (by omega) n1 n2 q1 (by omega) h4
  · rw [if_pos h2]
    by_cases m1 : fN s.data.toList a < 1
    · exact rread_zero s a w hs (by omega) m1
    by_cases m2 : 4096 < fN s.data.toList a
    · exact rread_big s a w hs (by omega) m2
    exact rread_seq s a w hs (by omega) (by omega) (by omega) (by refine Decidable.byContradiction fun h => h2 ⟨⟨by omega, by omega⟩, by omega⟩)

end Go.Proofs.Ytkgcjelipllpdaa
