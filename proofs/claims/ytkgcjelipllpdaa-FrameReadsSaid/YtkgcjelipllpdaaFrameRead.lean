/- frame.Read. -/
import Derived.Test.YtkgcjelipllpdaaFrameMake
import Derived.Test.YtkgcjelipllpdaaWireR
import Derived.Laws.NewBlocks
namespace Go.Proofs.Ytkgcjelipllpdaa
open Go.RowKit

theorem fr_size : (Try.prog.info? 24).map (·.size) = some 3 := by kernel_rfl
def frCells (q : Nat) (p : ByteArray) (at_ : Int) : Array Value := #[.int .i64 q, .string p, .int .i64 at_]
def frV (q : Nat) (p : ByteArray) (at_ : Int) : Value := .agg (frCells q p at_)

theorem results_frame (tmps : Array Value) (w : World) (g q : Nat) (p : ByteArray) (at_ : Int) (u v : Value) (hp : tmps.getD 4 undef = .pointer (some ⟨g, 0, none⟩)) (hg : w.heap[g]? = some (.cells (frCells q p at_) 24))
    (hu : tmps.getD 5 undef = u) (hv : tmps.getD 6 undef = v) :
    (results Try.f10 tmps).run Try.prog w = .ok (.tuple #[frV q p at_, u, v]) w := by
  have hp' : tmps[4]?.getD undef = .pointer (some ⟨g, 0, none⟩) := by simpa using hp
  subst hu hv
  simp [results, hp', asAddr, run_loadVar_row w g 24 24 (frCells q p at_) (0, 0) _ hg Try.underlying24 rfl (by exact fr_size), frV]

theorem fr_stored {w : World} {g q0 q : Nat} {p0 p : ByteArray} {a0 a : Int} (h : w.heap[g]? = some (.cells (frCells q0 p0 a0) 24)) :
    (((w.setCell ⟨g, 0, none⟩ (.int .i64 q)).setCell ⟨g, 1, none⟩ (.string p)).setCell ⟨g, 2, none⟩ (.int .i64 a)).heap[g]? = some (.cells (frCells q p a) 24) := by
  have k0 := heap_setCell_same _ _ 0 _ _ (.int .i64 q) h
  have k1 := heap_setCell_same _ _ 1 _ _ (.string p) k0
  exact heap_setCell_same _ _ 2 _ _ (.int .i64 a) k1
theorem fr_below {w w' : World} {g : Nat} (h : Below g w w') (u v x : Value) : Below g w (((w'.setCell ⟨g, 0, none⟩ u).setCell ⟨g, 1, none⟩ v).setCell ⟨g, 2, none⟩ x) :=
  ((h.setCell (p := ⟨g, 0, none⟩) (Nat.le_refl _) _).setCell (p := ⟨g, 1, none⟩) (Nat.le_refl _) _).setCell (p := ⟨g, 2, none⟩) (Nat.le_refl _) _
theorem fr_cells {w : World} {g q0 : Nat} {p0 : ByteArray} {a0 : Int} (h : w.heap[g]? = some (.cells (frCells q0 p0 a0) 24)) :
    w.cell? ⟨g, 0, none⟩ = some (.int .i64 q0) ∧ w.cell? ⟨g, 1, none⟩ = some (.string p0) ∧ w.cell? ⟨g, 2, none⟩ = some (.int .i64 a0) ∧ w.frozen? ⟨g, 0, none⟩ = false ∧ w.frozen? ⟨g, 1, none⟩ = false ∧ w.frozen? ⟨g, 2, none⟩ = false :=
  ⟨by rw [cell_of_row _ _ _ _ _ _ h]; rfl, by rw [cell_of_row _ _ _ _ _ _ h]; rfl, by rw [cell_of_row _ _ _ _ _ _ h]; rfl, frozen_of_row _ _ _ _ _ h, frozen_of_row _ _ _ _ _ h, frozen_of_row _ _ _ _ _ h⟩

/-- some bytes out of a list -/
def sl (l : List UInt8) (a n : Nat) : List UInt8 := (l.drop a).take n
theorem sl_extract (s : ByteArray) (a n : Nat) : (s.extract a (a + n)).data.toList = sl s.data.toList a n := by
  unfold sl; simp
/-- what is read: the payload's length, the number, the error, for a place within -/
def fN (l : List UInt8) (a : Nat) : Nat := num (sl l a 4)
def fQ (l : List UInt8) (a : Nat) : Nat := num (sl l (a + 4) 8)
def fOk (l : List UInt8) (a : Nat) : Prop := (1 ≤ fN l a ∧ fN l a ≤ 4096) ∧ fQ l a < 1048576
instance (l : List UInt8) (a : Nat) : Decidable (fOk l a) := by unfold fOk; infer_instance
def fSum (l : List UInt8) (a : Nat) : Prop := crc (sl l a 12 ++ sl l (a + 16) (fN l a)) = lowN (sl l (a + 12) 4)
instance (l : List UInt8) (a : Nat) : Decidable (fSum l a) := by unfold fSum; infer_instance
def fE (l : List UInt8) (a : Nat) : Nat :=
  if l.length < a + 16 then 8 else if ¬ fOk l a then 4 else if l.length < a + 16 + fN l a then 8 else if ¬ fSum l a then 42 else 0
def rdE (l : List UInt8) (at_ : Int) : Nat := if at_ < 0 ∨ (l.length : Int) < at_ then 1 else fE l at_.toNat
def readV (s : ByteArray) (at_ : Int) : Value :=
  if rdE s.data.toList at_ = 0 then .tuple #[frV (fQ s.data.toList at_.toNat) (bs (sl s.data.toList (at_.toNat + 16) (fN s.data.toList at_.toNat))) at_, .int .i64 ((at_.toNat + 16 + fN s.data.toList at_.toNat : Nat) : Int), .int .i64 0]
  else .tuple #[frV 0 ⟨#[]⟩ 0, .int .i64 0, .int .i64 (rdE s.data.toList at_)]

set_option maxHeartbeats 2000000 in
theorem read_arg (s : ByteArray) (at_ : Int) (w : World) (h : at_ < 0 ∨ (s.size : Int) < at_) :
    Calls Try.prog 10 #[.string s, .int .i64 at_] w
      fun e w' => e = .returned (.tuple #[frV 0 ⟨#[]⟩ 0, .int .i64 0, .int .i64 1]) ∧ Below w.heap.size w w' := by
  by_cases h1 : at_ < 0
  · have d1 : decide (at_ < 0) = true := decide_eq_true h1
    go_enter Try.func10, Try.ntmps10
    go_wp2_with fail
    refine bodyPost_ret_by (results_frame _ _ w.heap.size 0 ⟨#[]⟩ 0 (.int .i64 0) (.int .i64 1) rfl (heap_alloc_new _ _) rfl rfl) rfl ⟨rfl, (Below.refl _ _).alloc (Nat.le_refl _) _⟩
  · have d1 : decide (at_ < 0) = false := decide_eq_false h1
    have d2 : decide ((s.size : Int) < at_) = true := decide_eq_true (by omega)
    go_enter Try.func10, Try.ntmps10
    go_wp2_with fail
    refine bodyPost_ret_by (results_frame _ _ w.heap.size 0 ⟨#[]⟩ 0 (.int .i64 0) (.int .i64 1) rfl (heap_alloc_new _ _) rfl rfl) rfl ⟨rfl, (Below.refl _ _).alloc (Nat.le_refl _) _⟩

theorem after16 (x : ByteArray) (h : 16 ≤ x.size) : (((Rd.mk x 0 0 0).after 4).after 8).after 4 = ⟨x, 16, 0, 0⟩ ∧ (Rd.mk x 0 0 0).took 4 = x.extract 0 4 ∧ ((Rd.mk x 0 0 0).after 4).took 8 = x.extract 4 12 ∧ (((Rd.mk x 0 0 0).after 4).after 8).took 4 = x.extract 12 16 := by
  have c1 : (Rd.mk x 0 0 0).can 4 := ⟨rfl, by show 0 + 4 ≤ x.size; omega⟩
  have e1 : (Rd.mk x 0 0 0).after 4 = ⟨x, 4, 0, 0⟩ := by unfold Rd.after; rw [if_pos c1]
  have c2 : (Rd.mk x 4 0 0).can 8 := ⟨rfl, by show 4 + 8 ≤ x.size; omega⟩
  have e2 : (Rd.mk x 4 0 0).after 8 = ⟨x, 12, 0, 0⟩ := by unfold Rd.after; rw [if_pos c2]
  have c3 : (Rd.mk x 12 0 0).can 4 := ⟨rfl, by show 12 + 4 ≤ x.size; omega⟩
  have e3 : (Rd.mk x 12 0 0).after 4 = ⟨x, 16, 0, 0⟩ := by unfold Rd.after; rw [if_pos c3]
  refine ⟨by rw [e1, e2, e3], ?_, ?_, ?_⟩
  · unfold Rd.took; rw [if_pos c1]
  · rw [e1]; unfold Rd.took; rw [if_pos c2]
  · rw [e1, e2]; unfold Rd.took; rw [if_pos c3]
theorem after_bad (r : Rd) (n : Nat) (h : r.e = 8) : (r.after n).e = 8 := by
  have c : ¬ r.can n := fun k => by have := k.1; omega
  unfold Rd.after; rw [if_neg c, if_neg (by omega)]; exact h
theorem after_short (r : Rd) (n : Nat) (h : r.e = 0) (k : ¬ r.p + n ≤ r.s.size) : (r.after n).e = 8 := by
  have c : ¬ r.can n := fun k' => k k'.2
  unfold Rd.after; rw [if_neg c, if_pos h]
theorem after15 (x : ByteArray) (h : x.size < 16) : ((((Rd.mk x 0 0 0).after 4).after 8).after 4).e = 8 := by
  by_cases h1 : 4 ≤ x.size
  · have c1 : (Rd.mk x 0 0 0).can 4 := ⟨rfl, by show 0 + 4 ≤ x.size; omega⟩
    have e1 : (Rd.mk x 0 0 0).after 4 = ⟨x, 4, 0, 0⟩ := by unfold Rd.after; rw [if_pos c1]
    rw [e1]
    by_cases h2 : 12 ≤ x.size
    · have c2 : (Rd.mk x 4 0 0).can 8 := ⟨rfl, by show 4 + 8 ≤ x.size; omega⟩
      have e2 : (Rd.mk x 4 0 0).after 8 = ⟨x, 12, 0, 0⟩ := by unfold Rd.after; rw [if_pos c2]
      rw [e2]
      exact after_short _ _ rfl (by show ¬ 12 + 4 ≤ x.size; omega)
    · exact after_bad _ _ (after_short _ _ rfl (by show ¬ 4 + 8 ≤ x.size; omega))
  · exact after_bad _ _ (after_bad _ _ (after_short _ _ rfl (by show ¬ 0 + 4 ≤ x.size; omega)))

set_option maxHeartbeats 2000000 in
theorem read_short (s : ByteArray) (a : Nat) (w : World) (hs : s.size ≤ 1000000) (ha : a ≤ s.size) (h : s.size < a + 16) :
    Calls Try.prog 10 #[.string s, .int .i64 a] w
      fun e w' => e = .returned (.tuple #[frV 0 ⟨#[]⟩ 0, .int .i64 0, .int .i64 8]) ∧ Below w.heap.size w w' := by
  have d1 : decide ((a : Int) < 0) = false := decide_eq_false (by omega)
  have d2 : decide (s.size < a) = false := decide_eq_false (by omega)
  have b0 : (0 : Int) ≤ (a : Int) := by omega
  have b1 : (a : Int) ≤ (s.size : Int) := by omega
  have hx : (s.extract a s.size).size < 16 := by rw [ByteArray.size_extract]; omega
  obtain ⟨x, ex⟩ : ∃ x, s.extract a s.size = x := ⟨_, rfl⟩
  rw [ex] at hx
  have E := Lib.hid (after15 x hx)
  have F0 := Lib.hid (show (Rd.mk x 0 0 0).fine from ⟨by have := hs; show x.size ≤ 1000000; omega, Nat.zero_le _⟩)
  clear hx
  go_enter Try.func10, Try.ntmps10
  go_wp2_with fail
  obtain ⟨w0, ew0⟩ : ∃ z, w.alloc (.cells #[.int .i64 0, .string ⟨#[]⟩, .int .i64 0] 24) = z := ⟨_, rfl⟩
  have hr0 : w0.heap[w.heap.size]? = some (.cells (frCells 0 ⟨#[]⟩ 0) 24) := by rw [← ew0]; exact heap_alloc_new _ _
  have hz0 : w0.heap.size = w.heap.size + 1 := by rw [← ew0]; simp
  have hb0 : Below w.heap.size w w0 := by rw [← ew0]; exact (Below.refl _ _).alloc (Nat.le_refl _) _
  rw [ew0]
  clear ew0
  obtain ⟨g, eg⟩ : ∃ g, w.heap.size = g := ⟨_, rfl⟩
  rw [eg] at hr0 hz0 hb0 ⊢
  have HR0 := Lib.hid hr0
  have HZ0 := Lib.hid hz0
  have HB0 := Lib.hid hb0
  have EG := Lib.hid eg
  clear hr0 hz0 hb0 eg
  refine (rNew x w0).mono ?_
  rintro e w1 ⟨rfl, hr1, hb1⟩
  rw [HZ0.out] at hr1 hb1 ⊢
  have HB1 := Lib.hid hb1
  go_wp2_with fail
  refine (rU32 (g + 1) _ w1 F0.out hr1).mono ?_
  rintro e w2 ⟨rfl, hr2, hb2⟩
  have HB2 := Lib.hid (HB1.out.trans hb2)
  clear hr1 hb1 HB1 hb2
  obtain ⟨n, en⟩ : ∃ n, num ((Rd.mk x 0 0 0).took 4).data.toList = n := ⟨_, rfl⟩
  rw [en]
  go_wp2_with fail
  refine (rU64 (g + 1) _ w2 (F0.out.next 4) hr2).mono ?_
  rintro e w3 ⟨rfl, hr3, hb3⟩
  have HB3 := Lib.hid (HB2.out.trans hb3)
  clear hr2 HB2 hb3
  obtain ⟨q, eq⟩ : ∃ n, num (((Rd.mk x 0 0 0).after 4).took 8).data.toList = n := ⟨_, rfl⟩
  rw [eq]
  go_wp2_with fail
  refine (rLow (g + 1) _ w3 ((F0.out.next 4).next 8) hr3).mono ?_
  rintro e w4 ⟨rfl, hr4, hb4⟩
  have HB4 := Lib.hid (HB3.out.trans hb4)
  clear hr3 HB3 hb4
  obtain ⟨c, ec⟩ : ∃ c, lowN ((((Rd.mk x 0 0 0).after 4).after 8).took 4).data.toList = c := ⟨_, rfl⟩
  rw [ec]
  obtain ⟨r, er⟩ : ∃ r, (((Rd.mk x 0 0 0).after 4).after 8).after 4 = r := ⟨_, rfl⟩
  rw [er] at hr4 E
  have HR4 := Lib.hid hr4
  clear hr4
  go_wp2_with fail
  refine (rErr (g + 1) r w4 HR4.out).mono ?_
  rintro e w5 ⟨rfl, hb5⟩
  have HB5 := Lib.hid (HB4.out.trans (hb5.mono (by have := HR4.out.lt; omega)))
  have HR5 := Lib.hid (HR4.out.keep hb5 HR4.out.lt)
  clear HB4 hb5 HR4
  have HC := Lib.hid (show w5.heap[g]? = some (.cells (frCells 0 ⟨#[]⟩ 0) 24) by rw [HB5.out.block g (by omega)]; exact HR0.out)
  have HW := Lib.hid (show Below g w w5 from HB0.out.trans (HB5.out.mono (by omega)))
  clear HB5 HR0 HB0 HZ0
  rw [E.out]
  obtain ⟨k0, k1, k2, l0, l1, l2⟩ := fr_cells HC.out
  go_wp2_with fail
  have eg := EG.out
  subst eg
  refine bodyPost_ret_by (results_frame _ _ w.heap.size 0 ⟨#[]⟩ 0 (.int .i64 0) (.int .i64 8) rfl (fr_stored HC.out) rfl rfl) rfl ⟨rfl, fr_below HW.out _ _ _⟩

end Go.Proofs.Ytkgcjelipllpdaa
