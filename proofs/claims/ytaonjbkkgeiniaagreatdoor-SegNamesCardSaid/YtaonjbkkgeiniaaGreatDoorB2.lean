import Derived.Test.YtaonjbkkgeiniaaGreatDoorB0
import Derived.Test.YtaonjbkkgeiniaaGreatDoorB1
import Derived.BigRegion
import Derived.Laws.NewBlocks
import Derived.Deep.DeepCutAuto
import Derived.RangeFuncNested
import Derived.RangeFuncBound
import Derived.RangeFuncCalls
import Derived.RangeFuncLeaves
import Derived.Shelf.Abstract
import Derived.Shelf.RegionOpen
import Derived.WalkKit
import Derived.OwnWalkIn
import Derived.TacticsInMore
import Derived.LoopNIn
import Derived.LoopIn
import Derived.Maps.AppendAt
/- Walks over package frame: length, Size, Make. -/
namespace Go.Proofs.YtaonjbkkgeiniaaGreatDoor
open Go.RowKit

/-- a frame's first twelve bytes; its bytes -/
def head (n seq : Nat) : List UInt8 := be4 n ++ be8 seq
def frm (seq : Nat) (l : List UInt8) : List UInt8 := head l.length seq ++ four (crc (head l.length seq ++ l)) ++ l
def lenOk (n : Int) : Prop := 1 ≤ n ∧ n ≤ 4096
instance (n : Int) : Decidable (lenOk n) := by unfold lenOk; infer_instance
/-- Make's error -/
def mkE (seq : Int) (s : ByteArray) : Nat := if seq < 0 ∨ 1048576 ≤ seq then 1 else if s.size = 0 then 4 else if 4096 < s.size then 40 else 0
def mkS (seq : Int) (s : ByteArray) : ByteArray := if mkE seq s = 0 then bs (frm seq.toNat s.data.toList) else ⟨#[]⟩

set_option maxHeartbeats 400000 in
theorem length_any (n : Int) (w : World) :
    Calls Tryz.prog 61 #[.int .i64 n] w
      fun e w' => e = .returned (.bool (decide (lenOk n))) ∧ w = w' := by
  by_cases h1 : 1 ≤ n
  · have d1 : decide (1 ≤ n) = true := by simp [h1]
    have e : decide (lenOk n) = decide (n ≤ 4096) := by simp [lenOk, h1]
    rw [e]
    go_enter Tryz.func61, Tryz.ntmps61
    go_wp2_with fail
    go_ret
    exact ⟨rfl, rfl⟩
  · have d1 : decide (1 ≤ n) = false := by simp [h1]
    have e : decide (lenOk n) = false := decide_eq_false (fun h => h1 h.1)
    rw [e]
    go_enter Tryz.func61, Tryz.ntmps61
    go_wp2_with fail
    go_ret
    exact ⟨rfl, rfl⟩

def szOf (n : Int) : Int := if lenOk n then 16 + n else 0

set_option maxHeartbeats 400000 in
theorem size_any (n : Int) (w : World) :
    Calls Tryz.prog 35 #[.int .i64 n] w
      fun e w' => e = .returned (.int .i64 (szOf n)) ∧ w = w' := by
  unfold szOf
  by_cases h1 : lenOk n
  · have d1 : decide (lenOk n) = true := decide_eq_true h1
    have hw : IntKind.i64.wrap (16 + n) = 16 + n := IntWalk.i64_in _ (by unfold lenOk at h1; omega)
    rw [if_pos h1]
    go_enter Tryz.func35, Tryz.ntmps35
    go_wp2_with fail
    refine (length_any n w).mono ?_
    rintro e w' ⟨rfl, rfl⟩
    go_wp2_with fail
    go_ret
    exact ⟨rfl, rfl⟩
  · have d1 : decide (lenOk n) = false := decide_eq_false h1
    rw [if_neg h1]
    go_enter Tryz.func35, Tryz.ntmps35
    go_wp2_with fail
    refine (length_any n w).mono ?_
    rintro e w' ⟨rfl, rfl⟩
    go_wp2_with fail
    go_ret
    exact ⟨rfl, rfl⟩

theorem wrt_new (w : World) : Wrt (w.alloc (.cells #[.slice none 0 0] 99)) w.heap.size [] := by
  refine ⟨none, 0, heap_alloc_new _ _, ?_⟩
  exact World.ownsRow_nil _ _ _ _

theorem Wrt.keep {w w' : World} {b B : Nat} {l : List UInt8} (h : Wrt w b l) (hb : Below B w w') (hB : w.heap.size ≤ B) : Wrt w' b l := by
  obtain ⟨oa, cap, h⟩ := h
  exact ⟨oa, cap, by rw [hb.block b (by have := h.lt; omega)]; exact h.1, h.2.1, h.2.2.imp id (fun ⟨g, c, cur, e1, e2, e3, e4⟩ => ⟨g, c, cur, e1, e2, by rw [hb.block g (by have := (Array.getElem?_eq_some_iff.1 e3).1; omega)]; exact e3, e4⟩)⟩

theorem length_be4 (n : Nat) : (be4 n).length = 4 := rfl
theorem length_be8 (n : Nat) : (be8 n).length = 8 := rfl

set_option maxHeartbeats 2000000 in
theorem make_any (seq : Int) (s : ByteArray) (w : World) (hs : s.size ≤ 1000000) :
    Calls Tryz.prog 36 #[.int .i64 seq, .string s] w
      fun e w' => e = .returned (.tuple #[.string (mkS seq s), .int .i64 (mkE seq s)]) ∧ Below w.heap.size w w' := by
  by_cases h1 : seq < 0
  · have d1 : decide (seq < 0) = true := by simp [h1]
    have e1 : mkE seq s = 1 := by simp [mkE, h1]
    have e2 : mkS seq s = ⟨#[]⟩ := by simp [mkS, e1]
    rw [e1, e2]
    go_enter Tryz.func36, Tryz.ntmps36
    go_wp2_with fail
    go_ret2
    exact ⟨rfl, Below.refl _ _⟩
  by_cases h2 : 1048576 ≤ seq
  · have d1 : decide (seq < 0) = false := by simp [h1]
    have d2 : decide (1048576 ≤ seq) = true := by simp [h2]
    have e1 : mkE seq s = 1 := by simp [mkE, h2]
    have e2 : mkS seq s = ⟨#[]⟩ := by simp [mkS, e1]
    rw [e1, e2]
    go_enter Tryz.func36, Tryz.ntmps36
    go_wp2_with fail
    go_ret2
    exact ⟨rfl, Below.refl _ _⟩
  have d1 : decide (seq < 0) = false := by simp [h1]
  have d2 : decide (1048576 ≤ seq) = false := by simp [h2]
  by_cases h3 : s.size = 0
  · obtain rfl : s = ⟨#[]⟩ := by
      apply ByteArray.ext
      exact Array.eq_empty_of_size_eq_zero h3
    have e1 : mkE seq ⟨#[]⟩ = 4 := by simp [mkE, h1, h2, h3]
    have e2 : mkS seq ⟨#[]⟩ = ⟨#[]⟩ := by simp [mkS, e1]
    rw [e1, e2]
    go_enter Tryz.func36, Tryz.ntmps36
    go_wp2_with fail
    go_ret2
    exact ⟨rfl, Below.refl _ _⟩
  have hne : s ≠ ⟨#[]⟩ := by rintro rfl; exact h3 rfl
  have d3 : s.toList.isEmpty = false := by
    rw [Bool.eq_false_iff]; intro h; exact hne (ByteArray.ext (by rw [ByteArray.toList_eq] at h; exact Array.ext' (List.isEmpty_iff.1 h)))
  by_cases h4 : 4096 < s.size
  · have d4 : decide (lenOk (s.size : Int)) = false := decide_eq_false (by unfold lenOk; omega)
    have e1 : mkE seq s = 40 := by simp [mkE, h1, h2, h3, h4]
    have e2 : mkS seq s = ⟨#[]⟩ := by simp [mkS, e1]
    rw [e1, e2]
    go_enter Tryz.func36, Tryz.ntmps36
    go_wp2_with (go_at_call 61; refine (length_any _ _).mono ?_; rintro e w' ⟨rfl, rfl⟩)
    go_ret2
    exact ⟨rfl, Below.refl _ _⟩
  have d4 : decide (lenOk (s.size : Int)) = true := decide_eq_true (by unfold lenOk; omega)
  have e1 : mkE seq s = 0 := by simp [mkE, h1, h2, h3, h4]
  have e2 : mkS seq s = bs (frm seq.toNat s.data.toList) := by simp [mkS, e1]
  rw [e1, e2]
  obtain ⟨n, rfl⟩ : ∃ n : Nat, seq = n := ⟨seq.toNat, by omega⟩
  rw [Int.toNat_natCast]
  have E0 := Lib.hid (show frm n s.data.toList = head s.size n ++ four (crc (head s.size n ++ s.data.toList)) ++ s.data.toList from rfl)
  have C1 : ((s.size : Int) % 4294967296) = s.size := by omega
  have C2 : ((n : Int) % 18446744073709551616) = n := by omega
  go_enter Tryz.func36, Tryz.ntmps36
  go_wp2_with (go_at_call 61; refine (length_any _ _).mono ?_; rintro e w' ⟨rfl, rfl⟩)
  rcases (wrt_new w) with hw0
  go_wp2_with fail
  obtain ⟨w0, ew0⟩ : ∃ x, w.alloc (.cells #[.slice none 0 0] 99) = x := ⟨_, rfl⟩
  have hb0 : Below w.heap.size w w0 := by rw [← ew0]; exact (Below.refl _ _).alloc (Nat.le_refl _) _
  rw [ew0] at hw0 ⊢
  clear ew0
  obtain ⟨b, hb⟩ : ∃ x, w.heap.size = x := ⟨_, rfl⟩
  rw [hb] at hw0 hb0 ⊢
  refine (wU32 b [] s.size w0 (by omega) (by simp) hw0).mono ?_
  rintro e w1 ⟨rfl, hw1, hb1⟩
  have B1 := Lib.hid (hb0.trans hb1)
  clear hw0 hb0 hb1
  go_wp2_with fail
  refine (wU64 b _ n w1 (by omega) (by simp [length_be4]) hw1).mono ?_
  rintro e w2 ⟨rfl, hw2, hb2⟩
  have B2 := Lib.hid (B1.out.trans hb2)
  clear hw1 hb2 B1
  rw [List.nil_append] at hw2
  rw [show be4 s.size ++ be8 n = head s.size n from rfl] at hw2
  have HL := Lib.hid (show (head s.size n).length = 12 from rfl)
  obtain ⟨hd, ehd⟩ : ∃ x, head s.size n = x := ⟨_, rfl⟩
  rw [ehd] at hw2 HL E0
  clear ehd
  have hsz : (bs hd ++ s).size ≤ 1000000000 := by rw [ByteArray.size_append, size_bs, HL.out]; omega
  have hof := fun w => of_str (bs hd ++ s) w hsz
  rw [show (bs hd ++ s).data.toList = hd ++ s.data.toList from by rw [data_app]; rfl] at hof
  have HO := Lib.hid hof
  clear hof hsz
  go_wp2_with fail
  refine (wBytes b hd w2 hw2).mono ?_
  rintro e w' ⟨rfl, rfl⟩
  have ehs := bs_data hd
  generalize bs hd = sh at *
  have hss : sh.size = 12 := by rw [← len_data, ehs]; exact HL.out
  have hcat : ¬ 9223372036854775807 < sh.size + s.size := by omega
  clear e1 e2 d1 d2 d3 h1 h2 h3 h4 hne C1 C2 d4 ehs
  go_wp2_with fail
  with_reducible refine (HO.out w2).mono ?_
  rintro e w3 ⟨rfl, hb3⟩
  have B3 := Lib.hid (B2.out.trans (hb3.mono (by have := hw2; obtain ⟨oa, cap, h⟩ := hw2; have := h.lt; omega)))
  go_wp2_with fail
  refine (wLow b hd _ w3 (by rw [HL.out]; omega) (hw2.keep hb3 (Nat.le_refl _))).mono ?_
  rintro e w4 ⟨rfl, hw4, hb4⟩
  have B4 := Lib.hid (B3.out.trans hb4)
  have HL2 := Lib.hid (show (hd ++ four (crc (hd ++ s.data.toList))).length = 16 by rw [List.length_append, HL.out, length_four])
  obtain ⟨hd2, ehd2⟩ : ∃ x, hd ++ four (crc (hd ++ s.data.toList)) = x := ⟨_, rfl⟩
  rw [ehd2] at hw4 HL2 E0
  clear HO HL hcat hss hw2 hb3 hb4 B3 B2 ehd2
  go_wp2_with fail
  refine (wRaw b hd2 s w4 (by rw [HL2.out]; omega) hw4).mono ?_
  rintro e w5 ⟨rfl, hw5, hb5⟩
  have B5 := Lib.hid (B4.out.trans hb5)
  clear B4 hb5 hw4
  go_wp2_with fail
  refine (wBytes b _ w5 hw5).mono ?_
  rintro e w' ⟨rfl, rfl⟩
  go_wp2_with fail
  go_ret2
  rw [E0.out]
  subst hb
  exact ⟨rfl, B5.out⟩

end Go.Proofs.YtaonjbkkgeiniaaGreatDoor

/- frame.Read. -/
namespace Go.Proofs.YtaonjbkkgeiniaaGreatDoor
open Go.RowKit

theorem fr_size : (Tryz.prog.info? 60).map (·.size) = some 3 := by kernel_rfl
def frCells (q : Nat) (p : ByteArray) (at_ : Int) : Array Value := #[.int .i64 q, .string p, .int .i64 at_]
def frV (q : Nat) (p : ByteArray) (at_ : Int) : Value := .agg (frCells q p at_)

theorem results_frame (tmps : Array Value) (w : World) (g q : Nat) (p : ByteArray) (at_ : Int) (u v : Value) (hp : tmps.getD 4 undef = .pointer (some ⟨g, 0, none⟩)) (hg : w.heap[g]? = some (.cells (frCells q p at_) 60))
    (hu : tmps.getD 5 undef = u) (hv : tmps.getD 6 undef = v) :
    (results Tryz.f108 tmps).run Tryz.prog w = .ok (.tuple #[frV q p at_, u, v]) w := by
  have hp' : tmps[4]?.getD undef = .pointer (some ⟨g, 0, none⟩) := by simpa using hp
  subst hu hv
  simp [results, hp', asAddr, run_loadVar_row w g 60 60 (frCells q p at_) (0, 0) _ hg Tryz.underlying60 rfl (by exact fr_size), frV]

theorem fr_stored {w : World} {g q0 q : Nat} {p0 p : ByteArray} {a0 a : Int} (h : w.heap[g]? = some (.cells (frCells q0 p0 a0) 60)) :
    (((w.setCell ⟨g, 0, none⟩ (.int .i64 q)).setCell ⟨g, 1, none⟩ (.string p)).setCell ⟨g, 2, none⟩ (.int .i64 a)).heap[g]? = some (.cells (frCells q p a) 60) := by
  have k0 := heap_setCell_same _ _ 0 _ _ (.int .i64 q) h
  have k1 := heap_setCell_same _ _ 1 _ _ (.string p) k0
  exact heap_setCell_same _ _ 2 _ _ (.int .i64 a) k1
theorem fr_below {w w' : World} {g : Nat} (h : Below g w w') (u v x : Value) : Below g w (((w'.setCell ⟨g, 0, none⟩ u).setCell ⟨g, 1, none⟩ v).setCell ⟨g, 2, none⟩ x) :=
  ((h.setCell (p := ⟨g, 0, none⟩) (Nat.le_refl _) _).setCell (p := ⟨g, 1, none⟩) (Nat.le_refl _) _).setCell (p := ⟨g, 2, none⟩) (Nat.le_refl _) _
theorem fr_cells {w : World} {g q0 : Nat} {p0 : ByteArray} {a0 : Int} (h : w.heap[g]? = some (.cells (frCells q0 p0 a0) 60)) :
    w.cell? ⟨g, 0, none⟩ = some (.int .i64 q0) ∧ w.cell? ⟨g, 1, none⟩ = some (.string p0) ∧ w.cell? ⟨g, 2, none⟩ = some (.int .i64 a0) ∧ w.frozen? ⟨g, 0, none⟩ = false ∧ w.frozen? ⟨g, 1, none⟩ = false ∧ w.frozen? ⟨g, 2, none⟩ = false :=
  ⟨by rw [cell_of_row _ _ _ _ _ _ h]; rfl, by rw [cell_of_row _ _ _ _ _ _ h]; rfl, by rw [cell_of_row _ _ _ _ _ _ h]; rfl, frozen_of_row _ _ _ _ _ h, frozen_of_row _ _ _ _ _ h, frozen_of_row _ _ _ _ _ h⟩

/-- some bytes out of a list -/
def sl (l : List UInt8) (a n : Nat) : List UInt8 := (l.drop a).take n
theorem sl_extract (s : ByteArray) (a n : Nat) : (s.extract a (a + n)).data.toList = sl s.data.toList a n := by
  unfold sl; simp
/-- what is read: the payload's length, the number, the error, for a place within -/
def fN (l : List UInt8) (a : Nat) : Nat := num (sl l a 4)
def fQ (l : List UInt8) (a : Nat) : Nat := num (sl l (a + 4) 8)
def fOk (l : List UInt8) (a : Nat) : Prop := (1 ≤ fN l a ∧ fN l a ≤ 4096) ∧ fQ l a < 1048576
instance (l : List UInt8) (a : Nat) : Decidable (fOk l a) := by unfold fOk; infer_instance
def fSum (l : List UInt8) (a : Nat) : Prop := crc (sl l a 12 ++ sl l (a + 16) (fN l a)) = lowN (sl l (a + 12) 4)
instance (l : List UInt8) (a : Nat) : Decidable (fSum l a) := by unfold fSum; infer_instance
def fE (l : List UInt8) (a : Nat) : Nat :=
  if l.length < a + 16 then 8 else if ¬ fOk l a then 4 else if l.length < a + 16 + fN l a then 8 else if ¬ fSum l a then 42 else 0
def rdE (l : List UInt8) (at_ : Int) : Nat := if at_ < 0 ∨ (l.length : Int) < at_ then 1 else fE l at_.toNat
def readV (s : ByteArray) (at_ : Int) : Value :=
  if rdE s.data.toList at_ = 0 then .tuple #[frV (fQ s.data.toList at_.toNat) (bs (sl s.data.toList (at_.toNat + 16) (fN s.data.toList at_.toNat))) at_, .int .i64 ((at_.toNat + 16 + fN s.data.toList at_.toNat : Nat) : Int), .int .i64 0]
  else .tuple #[frV 0 ⟨#[]⟩ 0, .int .i64 0, .int .i64 (rdE s.data.toList at_)]

set_option maxHeartbeats 2000000 in
theorem read_arg (s : ByteArray) (at_ : Int) (w : World) (h : at_ < 0 ∨ (s.size : Int) < at_) :
    Calls Tryz.prog 108 #[.string s, .int .i64 at_] w
      fun e w' => e = .returned (.tuple #[frV 0 ⟨#[]⟩ 0, .int .i64 0, .int .i64 1]) ∧ Below w.heap.size w w' := by
  by_cases h1 : at_ < 0
  · have d1 : decide (at_ < 0) = true := decide_eq_true h1
    go_enter Tryz.func108, Tryz.ntmps108
    go_wp2_with fail
    refine bodyPost_ret_by (results_frame _ _ w.heap.size 0 ⟨#[]⟩ 0 (.int .i64 0) (.int .i64 1) rfl (heap_alloc_new _ _) rfl rfl) rfl ⟨rfl, (Below.refl _ _).alloc (Nat.le_refl _) _⟩
  · have d1 : decide (at_ < 0) = false := decide_eq_false h1
    have d2 : decide ((s.size : Int) < at_) = true := decide_eq_true (by omega)
    go_enter Tryz.func108, Tryz.ntmps108
    go_wp2_with fail
    refine bodyPost_ret_by (results_frame _ _ w.heap.size 0 ⟨#[]⟩ 0 (.int .i64 0) (.int .i64 1) rfl (heap_alloc_new _ _) rfl rfl) rfl ⟨rfl, (Below.refl _ _).alloc (Nat.le_refl _) _⟩

theorem after16 (x : ByteArray) (h : 16 ≤ x.size) : (((Rd.mk x 0 0 0).after 4).after 8).after 4 = ⟨x, 16, 0, 0⟩ ∧ (Rd.mk x 0 0 0).took 4 = x.extract 0 4 ∧ ((Rd.mk x 0 0 0).after 4).took 8 = x.extract 4 12 ∧ (((Rd.mk x 0 0 0).after 4).after 8).took 4 = x.extract 12 16 := by
  have c1 : (Rd.mk x 0 0 0).can 4 := ⟨rfl, by show 0 + 4 ≤ x.size; omega⟩
  have e1 : (Rd.mk x 0 0 0).after 4 = ⟨x, 4, 0, 0⟩ := by unfold Rd.after; rw [if_pos c1]
  have c2 : (Rd.mk x 4 0 0).can 8 := ⟨rfl, by show 4 + 8 ≤ x.size; omega⟩
  have e2 : (Rd.mk x 4 0 0).after 8 = ⟨x, 12, 0, 0⟩ := by unfold Rd.after; rw [if_pos c2]
  have c3 : (Rd.mk x 12 0 0).can 4 := ⟨rfl, by show 12 + 4 ≤ x.size; omega⟩
  have e3 : (Rd.mk x 12 0 0).after 4 = ⟨x, 16, 0, 0⟩ := by unfold Rd.after; rw [if_pos c3]
  refine ⟨by rw [e1, e2, e3], ?_, ?_, ?_⟩
  · unfold Rd.took; rw [if_pos c1]
  · rw [e1]; unfold Rd.took; rw [if_pos c2]
  · rw [e1, e2]; unfold Rd.took; rw [if_pos c3]
theorem after_bad (r : Rd) (n : Nat) (h : r.e = 8) : (r.after n).e = 8 := by
  have c : ¬ r.can n := fun k => by have := k.1; omega
  unfold Rd.after; rw [if_neg c, if_neg (by omega)]; exact h
theorem after_short (r : Rd) (n : Nat) (h : r.e = 0) (k : ¬ r.p + n ≤ r.s.size) : (r.after n).e = 8 := by
  have c : ¬ r.can n := fun k' => k k'.2
  unfold Rd.after; rw [if_neg c, if_pos h]
theorem after15 (x : ByteArray) (h : x.size < 16) : ((((Rd.mk x 0 0 0).after 4).after 8).after 4).e = 8 := by
  by_cases h1 : 4 ≤ x.size
  · have c1 : (Rd.mk x 0 0 0).can 4 := ⟨rfl, by show 0 + 4 ≤ x.size; omega⟩
    have e1 : (Rd.mk x 0 0 0).after 4 = ⟨x, 4, 0, 0⟩ := by unfold Rd.after; rw [if_pos c1]
    rw [e1]
    by_cases h2 : 12 ≤ x.size
    · have c2 : (Rd.mk x 4 0 0).can 8 := ⟨rfl, by show 4 + 8 ≤ x.size; omega⟩
      have e2 : (Rd.mk x 4 0 0).after 8 = ⟨x, 12, 0, 0⟩ := by unfold Rd.after; rw [if_pos c2]
      rw [e2]
      exact after_short _ _ rfl (by show ¬ 12 + 4 ≤ x.size; omega)
    · exact after_bad _ _ (after_short _ _ rfl (by show ¬ 4 + 8 ≤ x.size; omega))
  · exact after_bad _ _ (after_bad _ _ (after_short _ _ rfl (by show ¬ 0 + 4 ≤ x.size; omega)))

set_option maxHeartbeats 2000000 in
theorem read_short (s : ByteArray) (a : Nat) (w : World) (hs : s.size ≤ 1000000) (ha : a ≤ s.size) (h : s.size < a + 16) :
    Calls Tryz.prog 108 #[.string s, .int .i64 a] w
      fun e w' => e = .returned (.tuple #[frV 0 ⟨#[]⟩ 0, .int .i64 0, .int .i64 8]) ∧ Below w.heap.size w w' := by
  have d1 : decide ((a : Int) < 0) = false := decide_eq_false (by omega)
  have d2 : decide (s.size < a) = false := decide_eq_false (by omega)
  have b0 : (0 : Int) ≤ (a : Int) := by omega
  have b1 : (a : Int) ≤ (s.size : Int) := by omega
  have hx : (s.extract a s.size).size < 16 := by rw [ByteArray.size_extract]; omega
  obtain ⟨x, ex⟩ : ∃ x, s.extract a s.size = x := ⟨_, rfl⟩
  rw [ex] at hx
  have E := Lib.hid (after15 x hx)
  have F0 := Lib.hid (show (Rd.mk x 0 0 0).fine from ⟨by have := hs; show x.size ≤ 1000000; omega, Nat.zero_le _⟩)
  clear hx
  go_enter Tryz.func108, Tryz.ntmps108
  go_wp2_with fail
  obtain ⟨w0, ew0⟩ : ∃ z, w.alloc (.cells #[.int .i64 0, .string ⟨#[]⟩, .int .i64 0] 60) = z := ⟨_, rfl⟩
  have hr0 : w0.heap[w.heap.size]? = some (.cells (frCells 0 ⟨#[]⟩ 0) 60) := by rw [← ew0]; exact heap_alloc_new _ _
  have hz0 : w0.heap.size = w.heap.size + 1 := by rw [← ew0]; simp
  have hb0 : Below w.heap.size w w0 := by rw [← ew0]; exact (Below.refl _ _).alloc (Nat.le_refl _) _
  rw [ew0]
  clear ew0
  obtain ⟨g, eg⟩ : ∃ g, w.heap.size = g := ⟨_, rfl⟩
  rw [eg] at hr0 hz0 hb0 ⊢
  have HR0 := Lib.hid hr0
  have HZ0 := Lib.hid hz0
  have HB0 := Lib.hid hb0
  have EG := Lib.hid eg
  clear hr0 hz0 hb0 eg
  refine (rNew x w0).mono ?_
  rintro e w1 ⟨rfl, hr1, hb1⟩
  rw [HZ0.out] at hr1 hb1 ⊢
  have HB1 := Lib.hid hb1
  go_wp2_with fail
  refine (rU32 (g + 1) _ w1 F0.out hr1).mono ?_
  rintro e w2 ⟨rfl, hr2, hb2⟩
  have HB2 := Lib.hid (HB1.out.trans hb2)
  clear hr1 hb1 HB1 hb2
  obtain ⟨n, en⟩ : ∃ n, num ((Rd.mk x 0 0 0).took 4).data.toList = n := ⟨_, rfl⟩
  rw [en]
  go_wp2_with fail
  refine (rU64 (g + 1) _ w2 (F0.out.next 4) hr2).mono ?_
  rintro e w3 ⟨rfl, hr3, hb3⟩
  have HB3 := Lib.hid (HB2.out.trans hb3)
  clear hr2 HB2 hb3
  obtain ⟨q, eq⟩ : ∃ n, num (((Rd.mk x 0 0 0).after 4).took 8).data.toList = n := ⟨_, rfl⟩
  rw [eq]
  go_wp2_with fail
  refine (rLow (g + 1) _ w3 ((F0.out.next 4).next 8) hr3).mono ?_
  rintro e w4 ⟨rfl, hr4, hb4⟩
  have HB4 := Lib.hid (HB3.out.trans hb4)
  clear hr3 HB3 hb4
  obtain ⟨c, ec⟩ : ∃ c, lowN ((((Rd.mk x 0 0 0).after 4).after 8).took 4).data.toList = c := ⟨_, rfl⟩
  rw [ec]
  obtain ⟨r, er⟩ : ∃ r, (((Rd.mk x 0 0 0).after 4).after 8).after 4 = r := ⟨_, rfl⟩
  rw [er] at hr4 E
  have HR4 := Lib.hid hr4
  clear hr4
  go_wp2_with fail
  refine (rErr (g + 1) r w4 HR4.out).mono ?_
  rintro e w5 ⟨rfl, hb5⟩
  have HB5 := Lib.hid (HB4.out.trans (hb5.mono (by have := HR4.out.lt; omega)))
  have HR5 := Lib.hid (HR4.out.keep hb5 HR4.out.lt)
  clear HB4 hb5 HR4
  have HC := Lib.hid (show w5.heap[g]? = some (.cells (frCells 0 ⟨#[]⟩ 0) 60) by rw [HB5.out.block g (by omega)]; exact HR0.out)
  have HW := Lib.hid (show Below g w w5 from HB0.out.trans (HB5.out.mono (by omega)))
  clear HB5 HR0 HB0 HZ0
  rw [E.out]
  obtain ⟨k0, k1, k2, l0, l1, l2⟩ := fr_cells HC.out
  go_wp2_with fail
  have eg := EG.out
  subst eg
  refine bodyPost_ret_by (results_frame _ _ w.heap.size 0 ⟨#[]⟩ 0 (.int .i64 0) (.int .i64 8) rfl (fr_stored HC.out) rfl rfl) rfl ⟨rfl, fr_below HW.out _ _ _⟩

end Go.Proofs.YtaonjbkkgeiniaaGreatDoor

/- frame.Read: the other ways. -/
namespace Go.Proofs.YtaonjbkkgeiniaaGreatDoor
open Go.RowKit

theorem drop_extract (s : ByteArray) (a : Nat) : (s.extract a s.size).data.toList = s.data.toList.drop a := by
  have h : s.data.toList.length = s.size := rfl
  have h2 : (s.extract a s.size).data.toList = (s.data.toList.drop a).take (s.size - a) := by simp
  rw [h2, List.take_of_length_le (by rw [List.length_drop]; omega)]
theorem sl_drop (l : List UInt8) (a i n : Nat) : sl (l.drop a) i n = sl l (a + i) n := by unfold sl; rw [List.drop_drop]
theorem ext_sl (s x : ByteArray) (a i n : Nat) (h : x.data.toList = s.data.toList.drop a) : (x.extract i (i + n)).data.toList = sl s.data.toList (a + i) n := by
  rw [sl_extract, h, sl_drop]
theorem read_n (s x : ByteArray) (a : Nat) (h : x.data.toList = s.data.toList.drop a) : num (x.extract 0 4).data.toList = fN s.data.toList a := by
  have := ext_sl s x a 0 4 h
  unfold fN; rw [Nat.zero_add] at this; rw [this]; rfl
theorem read_q (s x : ByteArray) (a : Nat) (h : x.data.toList = s.data.toList.drop a) : num (x.extract 4 12).data.toList = fQ s.data.toList a := by
  have := ext_sl s x a 4 8 h
  unfold fQ; rw [show (12 : Nat) = 4 + 8 from rfl, this]
theorem read_c (s x : ByteArray) (a : Nat) (h : x.data.toList = s.data.toList.drop a) : lowN (x.extract 12 16).data.toList = lowN (sl s.data.toList (a + 12) 4) := by
  have := ext_sl s x a 12 4 h
  rw [show (16 : Nat) = 12 + 4 from rfl, this]
theorem of_to (s : ByteArray) (d : BitVec 32) (w : World) (hs : s.size ≤ 1000000000) (h : crc s.data.toList = d) :
    Calls Tryz.prog 65 #[.string s] w fun e w' => e = .returned (.int .u32 d.toNat) ∧ Below w.heap.size w w' := by
  subst h; exact of_str s w hs
theorem sl_len (l : List UInt8) (a n : Nat) : (sl l a n).length ≤ n := by unfold sl; rw [List.length_take]; omega
theorem fN_lt (l : List UInt8) (a : Nat) : fN l a < 4294967296 := by
  have h1 := num_lt (sl l a 4)
  have h3 : 256 ^ (sl l a 4).length ≤ 256 ^ 4 := Nat.pow_le_pow_right (by omega) (sl_len _ _ _)
  unfold fN; omega
theorem fQ_lt (l : List UInt8) (a : Nat) : fQ l a < 18446744073709551616 := by
  have h1 := num_lt (sl l (a + 4) 8)
  have h3 : 256 ^ (sl l (a + 4) 8).length ≤ 256 ^ 8 := Nat.pow_le_pow_right (by omega) (sl_len _ _ _)
  unfold fQ; omega

set_option maxHeartbeats 2000000 in
theorem read_big (s : ByteArray) (a : Nat) (w : World) (hs : s.size ≤ 1000000) (ha : a + 16 ≤ s.size) (h : 4096 < fN s.data.toList a) :
    Calls Tryz.prog 108 #[.string s, .int .i64 a] w
      fun e w' => e = .returned (.tuple #[frV 0 ⟨#[]⟩ 0, .int .i64 0, .int .i64 4]) ∧ Below w.heap.size w w' := by
  have d1 : decide ((a : Int) < 0) = false := decide_eq_false (by omega)
  have d2 : decide (s.size < a) = false := decide_eq_false (by omega)
  have b0 : (0 : Int) ≤ (a : Int) := by omega
  have b1 : (a : Int) ≤ (s.size : Int) := by omega
  have hx : (s.extract a s.size).size = s.size - a := by rw [ByteArray.size_extract]; omega
  have hxl : (s.extract a s.size).data.toList = s.data.toList.drop a := drop_extract s a
  obtain ⟨x, ex⟩ : ∃ x, s.extract a s.size = x := ⟨_, rfl⟩
  rw [ex] at hx hxl
  obtain ⟨T1, T2, T3, T4⟩ := after16 x (by omega)
  have F0 := Lib.hid (show (Rd.mk x 0 0 0).fine from ⟨by show x.size ≤ 1000000; omega, Nat.zero_le _⟩)
  have N0 := Lib.hid (read_n s x a hxl)
  have N1 := Lib.hid (read_q s x a hxl)
  have N2 := Lib.hid (read_c s x a hxl)
  have HX := Lib.hid hx
  have HXL := Lib.hid hxl
  have hn4 := Lib.hid (fN_lt s.data.toList a)
  have hq8 := Lib.hid (fQ_lt s.data.toList a)
  clear hx hxl
  go_enter Tryz.func108, Tryz.ntmps108
  go_wp2_with fail
  obtain ⟨w0, ew0⟩ : ∃ z, w.alloc (.cells #[.int .i64 0, .string ⟨#[]⟩, .int .i64 0] 60) = z := ⟨_, rfl⟩
  have hr0 : w0.heap[w.heap.size]? = some (.cells (frCells 0 ⟨#[]⟩ 0) 60) := by rw [← ew0]; exact heap_alloc_new _ _
  have hz0 : w0.heap.size = w.heap.size + 1 := by rw [← ew0]; simp
  have hb0 : Below w.heap.size w w0 := by rw [← ew0]; exact (Below.refl _ _).alloc (Nat.le_refl _) _
  rw [ew0]
  clear ew0
  obtain ⟨g, eg⟩ : ∃ g, w.heap.size = g := ⟨_, rfl⟩
  rw [eg] at hr0 hz0 hb0 ⊢
  have HR0 := Lib.hid hr0
  have HZ0 := Lib.hid hz0
  have HB0 := Lib.hid hb0
  have EG := Lib.hid eg
  clear hr0 hz0 hb0 eg
  refine (rNew x w0).mono ?_
  rintro e w1 ⟨rfl, hr1, hb1⟩
  rw [HZ0.out] at hr1 hb1 ⊢
  have HB1 := Lib.hid hb1
  go_wp2_with fail
  refine (rU32 (g + 1) _ w1 F0.out hr1).mono ?_
  rintro e w2 ⟨rfl, hr2, hb2⟩
  have HB2 := Lib.hid (HB1.out.trans hb2)
  clear hr1 hb1 HB1 hb2
  rw [T2, N0.out]
  obtain ⟨n, en⟩ : ∃ n, fN s.data.toList a = n := ⟨_, rfl⟩
  rw [en] at hn4 ⊢
  have EN := Lib.hid en
  clear en
  go_wp2_with fail
  refine (rU64 (g + 1) _ w2 (F0.out.next 4) hr2).mono ?_
  rintro e w3 ⟨rfl, hr3, hb3⟩
  have HB3 := Lib.hid (HB2.out.trans hb3)
  clear hr2 HB2 hb3
  rw [T3, N1.out]
  obtain ⟨q, eq⟩ : ∃ n, fQ s.data.toList a = n := ⟨_, rfl⟩
  rw [eq] at hq8 ⊢
  have EQ := Lib.hid eq
  clear eq
  go_wp2_with fail
  refine (rLow (g + 1) _ w3 ((F0.out.next 4).next 8) hr3).mono ?_
  rintro e w4 ⟨rfl, hr4, hb4⟩
  have HB4 := Lib.hid (HB3.out.trans hb4)
  clear hr3 HB3 hb4
  rw [T4, N2.out]
  obtain ⟨c, ec⟩ : ∃ c, lowN (sl s.data.toList (a + 12) 4) = c := ⟨_, rfl⟩
  rw [ec]
  have EC := Lib.hid ec
  clear ec
  rw [T1] at hr4
  clear T1 T2 T3 T4 N0 N1 N2
  have HR4 := Lib.hid hr4
  clear hr4
  go_wp2_with fail
  refine (rErr (g + 1) _ w4 HR4.out).mono ?_
  rintro e w5 ⟨rfl, hb5⟩
  have HB5 := Lib.hid (HB4.out.trans (hb5.mono (by have := HR4.out.lt; omega)))
  have HR5 := Lib.hid (HR4.out.keep hb5 HR4.out.lt)
  clear HB4 hb5 HR4
  have HC := Lib.hid (show w5.heap[g]? = some (.cells (frCells 0 ⟨#[]⟩ 0) 60) by rw [HB5.out.block g (by omega)]; exact HR0.out)
  have HW := Lib.hid (show Below g w w5 from HB0.out.trans (HB5.out.mono (by omega)))
  clear HB5 HR0 HB0 HZ0
  rw [EN.out] at h
  have d3 : decide ((4096 : Int) < (n : Int)) = true := decide_eq_true (by omega)
  clear h
  obtain ⟨k0, k1, k2, l0, l1, l2⟩ := fr_cells HC.out
  go_wp2_with fail
  have eg := EG.out
  subst eg
  refine bodyPost_ret_by (results_frame _ _ w.heap.size 0 ⟨#[]⟩ 0 (.int .i64 0) (.int .i64 4) rfl (fr_stored HC.out) rfl rfl) rfl ⟨rfl, fr_below HW.out _ _ _⟩

set_option maxHeartbeats 2000000 in
theorem read_zero (s : ByteArray) (a : Nat) (w : World) (hs : s.size ≤ 1000000) (ha : a + 16 ≤ s.size) (h : fN s.data.toList a = 0) :
    Calls Tryz.prog 108 #[.string s, .int .i64 a] w
      fun e w' => e = .returned (.tuple #[frV 0 ⟨#[]⟩ 0, .int .i64 0, .int .i64 4]) ∧ Below w.heap.size w w' := by
  have d1 : decide ((a : Int) < 0) = false := decide_eq_false (by omega)
  have d2 : decide (s.size < a) = false := decide_eq_false (by omega)
  have b0 : (0 : Int) ≤ (a : Int) := by omega
  have b1 : (a : Int) ≤ (s.size : Int) := by omega
  have hx : (s.extract a s.size).size = s.size - a := by rw [ByteArray.size_extract]; omega
  have hxl : (s.extract a s.size).data.toList = s.data.toList.drop a := drop_extract s a
  obtain ⟨x, ex⟩ : ∃ x, s.extract a s.size = x := ⟨_, rfl⟩
  rw [ex] at hx hxl
  obtain ⟨T1, T2, T3, T4⟩ := after16 x (by omega)
  have F0 := Lib.hid (show (Rd.mk x 0 0 0).fine from ⟨by show x.size ≤ 1000000; omega, Nat.zero_le _⟩)
  have N0 := Lib.hid (read_n s x a hxl)
  have N1 := Lib.hid (read_q s x a hxl)
  have N2 := Lib.hid (read_c s x a hxl)
  have HX := Lib.hid hx
  have HXL := Lib.hid hxl
  have hn4 := Lib.hid (fN_lt s.data.toList a)
  have hq8 := Lib.hid (fQ_lt s.data.toList a)
  clear hx hxl
  go_enter Tryz.func108, Tryz.ntmps108
  go_wp2_with fail
  obtain ⟨w0, ew0⟩ : ∃ z, w.alloc (.cells #[.int .i64 0, .string ⟨#[]⟩, .int .i64 0] 60) = z := ⟨_, rfl⟩
  have hr0 : w0.heap[w.heap.size]? = some (.cells (frCells 0 ⟨#[]⟩ 0) 60) := by rw [← ew0]; exact heap_alloc_new _ _
  have hz0 : w0.heap.size = w.heap.size + 1 := by rw [← ew0]; simp
  have hb0 : Below w.heap.size w w0 := by rw [← ew0]; exact (Below.refl _ _).alloc (Nat.le_refl _) _
  rw [ew0]
  clear ew0
  obtain ⟨g, eg⟩ : ∃ g, w.heap.size = g := ⟨_, rfl⟩
  rw [eg] at hr0 hz0 hb0 ⊢
  have HR0 := Lib.hid hr0
  have HZ0 := Lib.hid hz0
  have HB0 := Lib.hid hb0
  have EG := Lib.hid eg
  clear hr0 hz0 hb0 eg
  refine (rNew x w0).mono ?_
  rintro e w1 ⟨rfl, hr1, hb1⟩
  rw [HZ0.out] at hr1 hb1 ⊢
  have HB1 := Lib.hid hb1
  go_wp2_with fail
  refine (rU32 (g + 1) _ w1 F0.out hr1).mono ?_
  rintro e w2 ⟨rfl, hr2, hb2⟩
  have HB2 := Lib.hid (HB1.out.trans hb2)
  clear hr1 hb1 HB1 hb2
  rw [T2, N0.out]
  obtain ⟨n, en⟩ : ∃ n, fN s.data.toList a = n := ⟨_, rfl⟩
  rw [en] at hn4 ⊢
  have EN := Lib.hid en
  clear en
  go_wp2_with fail
  refine (rU64 (g + 1) _ w2 (F0.out.next 4) hr2).mono ?_
  rintro e w3 ⟨rfl, hr3, hb3⟩
  have HB3 := Lib.hid (HB2.out.trans hb3)
  clear hr2 HB2 hb3
  rw [T3, N1.out]
  obtain ⟨q, eq⟩ : ∃ n, fQ s.data.toList a = n := ⟨_, rfl⟩
  rw [eq] at hq8 ⊢
  have EQ := Lib.hid eq
  clear eq
  go_wp2_with fail
  refine (rLow (g + 1) _ w3 ((F0.out.next 4).next 8) hr3).mono ?_
  rintro e w4 ⟨rfl, hr4, hb4⟩
  have HB4 := Lib.hid (HB3.out.trans hb4)
  clear hr3 HB3 hb4
  rw [T4, N2.out]
  obtain ⟨c, ec⟩ : ∃ c, lowN (sl s.data.toList (a + 12) 4) = c := ⟨_, rfl⟩
  rw [ec]
  have EC := Lib.hid ec
  clear ec
  rw [T1] at hr4
  clear T1 T2 T3 T4 N0 N1 N2
  have HR4 := Lib.hid hr4
  clear hr4
  go_wp2_with fail
  refine (rErr (g + 1) _ w4 HR4.out).mono ?_
  rintro e w5 ⟨rfl, hb5⟩
  have HB5 := Lib.hid (HB4.out.trans (hb5.mono (by have := HR4.out.lt; omega)))
  have HR5 := Lib.hid (HR4.out.keep hb5 HR4.out.lt)
  clear HB4 hb5 HR4
  have HC := Lib.hid (show w5.heap[g]? = some (.cells (frCells 0 ⟨#[]⟩ 0) 60) by rw [HB5.out.block g (by omega)]; exact HR0.out)
  have HW := Lib.hid (show Below g w w5 from HB0.out.trans (HB5.out.mono (by omega)))
  clear HB5 HR0 HB0 HZ0
  rw [EN.out] at h
  subst h
  have d3 : decide (lenOk ((0 : Nat) : Int)) = false := by decide
  go_wp2_with fail
  refine (length_any 0 _).mono ?_
  rintro e w' ⟨rfl, rfl⟩
  have d4 : decide (lenOk 0) = false := by decide
  rw [d4]
  obtain ⟨k0, k1, k2, l0, l1, l2⟩ := fr_cells HC.out
  go_wp2_with fail
  have eg := EG.out
  subst eg
  refine bodyPost_ret_by (results_frame _ _ w.heap.size 0 ⟨#[]⟩ 0 (.int .i64 0) (.int .i64 4) rfl (fr_stored HC.out) rfl rfl) rfl ⟨rfl, fr_below HW.out _ _ _⟩

set_option maxHeartbeats 2000000 in
theorem read_seq (s : ByteArray) (a : Nat) (w : World) (hs : s.size ≤ 1000000) (ha : a + 16 ≤ s.size) (h : 1 ≤ fN s.data.toList a) (h' : fN s.data.toList a ≤ 4096) (hq : 1048576 ≤ fQ s.data.toList a) :
    Calls Tryz.prog 108 #[.string s, .int .i64 a] w
      fun e w' => e = .returned (.tuple #[frV 0 ⟨#[]⟩ 0, .int .i64 0, .int .i64 4]) ∧ Below w.heap.size w w' := by
  have d1 : decide ((a : Int) < 0) = false := decide_eq_false (by omega)
  have d2 : decide (s.size < a) = false := decide_eq_false (by omega)
  have b0 : (0 : Int) ≤ (a : Int) := by omega
  have b1 : (a : Int) ≤ (s.size : Int) := by omega
  have hx : (s.extract a s.size).size = s.size - a := by rw [ByteArray.size_extract]; omega
  have hxl : (s.extract a s.size).data.toList = s.data.toList.drop a := drop_extract s a
  obtain ⟨x, ex⟩ : ∃ x, s.extract a s.size = x := ⟨_, rfl⟩
  rw [ex] at hx hxl
  obtain ⟨T1, T2, T3, T4⟩ := after16 x (by omega)
  have F0 := Lib.hid (show (Rd.mk x 0 0 0).fine from ⟨by show x.size ≤ 1000000; omega, Nat.zero_le _⟩)
  have N0 := Lib.hid (read_n s x a hxl)
  have N1 := Lib.hid (read_q s x a hxl)
  have N2 := Lib.hid (read_c s x a hxl)
  have HX := Lib.hid hx
  have HXL := Lib.hid hxl
  have hn4 := Lib.hid (fN_lt s.data.toList a)
  have hq8 := Lib.hid (fQ_lt s.data.toList a)
  clear hx hxl
  go_enter Tryz.func108, Tryz.ntmps108
  go_wp2_with fail
  obtain ⟨w0, ew0⟩ : ∃ z, w.alloc (.cells #[.int .i64 0, .string ⟨#[]⟩, .int .i64 0] 60) = z := ⟨_, rfl⟩
  have hr0 : w0.heap[w.heap.size]? = some (.cells (frCells 0 ⟨#[]⟩ 0) 60) := by rw [← ew0]; exact heap_alloc_new _ _
  have hz0 : w0.heap.size = w.heap.size + 1 := by rw [← ew0]; simp
  have hb0 : Below w.heap.size w w0 := by rw [← ew0]; exact (Below.refl _ _).alloc (Nat.le_refl _) _
  rw [ew0]
  clear ew0
  obtain ⟨g, eg⟩ : ∃ g, w.heap.size = g := ⟨_, rfl⟩
  rw [eg] at hr0 hz0 hb0 ⊢
  have HR0 := Lib.hid hr0
  have HZ0 := Lib.hid hz0
  have HB0 := Lib.hid hb0
  have EG := Lib.hid eg
  clear hr0 hz0 hb0 eg
  refine (rNew x w0).mono ?_
  rintro e w1 ⟨rfl, hr1, hb1⟩
  rw [HZ0.out] at hr1 hb1 ⊢
  have HB1 := Lib.hid hb1
  go_wp2_with fail
  refine (rU32 (g + 1) _ w1 F0.out hr1).mono ?_
  rintro e w2 ⟨rfl, hr2, hb2⟩
  have HB2 := Lib.hid (HB1.out.trans hb2)
  clear hr1 hb1 HB1 hb2
  rw [T2, N0.out]
  obtain ⟨n, en⟩ : ∃ n, fN s.data.toList a = n := ⟨_, rfl⟩
  rw [en] at hn4 ⊢
  have EN := Lib.hid en
  clear en
  go_wp2_with fail
  refine (rU64 (g + 1) _ w2 (F0.out.next 4) hr2).mono ?_
  rintro e w3 ⟨rfl, hr3, hb3⟩
  have HB3 := Lib.hid (HB2.out.trans hb3)
  clear hr2 HB2 hb3
  rw [T3, N1.out]
  obtain ⟨q, eq⟩ : ∃ n, fQ s.data.toList a = n := ⟨_, rfl⟩
  rw [eq] at hq8 ⊢
  have EQ := Lib.hid eq
  clear eq
  go_wp2_with fail
  refine (rLow (g + 1) _ w3 ((F0.out.next 4).next 8) hr3).mono ?_
  rintro e w4 ⟨rfl, hr4, hb4⟩
  have HB4 := Lib.hid (HB3.out.trans hb4)
  clear hr3 HB3 hb4
  rw [T4, N2.out]
  obtain ⟨c, ec⟩ : ∃ c, lowN (sl s.data.toList (a + 12) 4) = c := ⟨_, rfl⟩
  rw [ec]
  have EC := Lib.hid ec
  clear ec
  rw [T1] at hr4
  clear T1 T2 T3 T4 N0 N1 N2
  have HR4 := Lib.hid hr4
  clear hr4
  go_wp2_with fail
  refine (rErr (g + 1) _ w4 HR4.out).mono ?_
  rintro e w5 ⟨rfl, hb5⟩
  have HB5 := Lib.hid (HB4.out.trans (hb5.mono (by have := HR4.out.lt; omega)))
  have HR5 := Lib.hid (HR4.out.keep hb5 HR4.out.lt)
  clear HB4 hb5 HR4
  have HC := Lib.hid (show w5.heap[g]? = some (.cells (frCells 0 ⟨#[]⟩ 0) 60) by rw [HB5.out.block g (by omega)]; exact HR0.out)
  have HW := Lib.hid (show Below g w w5 from HB0.out.trans (HB5.out.mono (by omega)))
  clear HB5 HR0 HB0 HZ0
  rw [EN.out] at h h'
  have d3 : decide ((4096 : Int) < (n : Int)) = false := decide_eq_false (by omega)
  have hwn : IntKind.i64.wrap (n : Int) = (n : Int) := IntWalk.i64_in _ (by omega)
  have HN := Lib.hid h
  have HN' := Lib.hid h'
  clear h h'
  go_wp2_with fail
  refine (length_any n _).mono ?_
  rintro e w' ⟨rfl, rfl⟩
  have d4 : decide (lenOk (n : Int)) = true := decide_eq_true (by have := HN.out; have := HN'.out; unfold lenOk; omega)
  rw [d4]
  rw [EQ.out] at hq
  have d5 : decide ((1048576 : Int) ≤ (q : Int)) = true := decide_eq_true (by omega)
  clear hq
  obtain ⟨k0, k1, k2, l0, l1, l2⟩ := fr_cells HC.out
  go_wp2_with fail
  have eg := EG.out
  subst eg
  refine bodyPost_ret_by (results_frame _ _ w.heap.size 0 ⟨#[]⟩ 0 (.int .i64 0) (.int .i64 4) rfl (fr_stored HC.out) rfl rfl) rfl ⟨rfl, fr_below HW.out _ _ _⟩

set_option maxHeartbeats 2000000 in
theorem read_cut (s : ByteArray) (a : Nat) (w : World) (hs : s.size ≤ 1000000) (ha : a + 16 ≤ s.size) (h : 1 ≤ fN s.data.toList a) (h' : fN s.data.toList a ≤ 4096) (hq : fQ s.data.toList a < 1048576) (hl : s.size < a + 16 + fN s.data.toList a) :
    Calls Tryz.prog 108 #[.string s, .int .i64 a] w
      fun e w' => e = .returned (.tuple #[frV 0 ⟨#[]⟩ 0, .int .i64 0, .int .i64 8]) ∧ Below w.heap.size w w' := by
  have d1 : decide ((a : Int) < 0) = false := decide_eq_false (by omega)
  have d2 : decide (s.size < a) = false := decide_eq_false (by omega)
  have b0 : (0 : Int) ≤ (a : Int) := by omega
  have b1 : (a : Int) ≤ (s.size : Int) := by omega
  have hx : (s.extract a s.size).size = s.size - a := by rw [ByteArray.size_extract]; omega
  have hxl : (s.extract a s.size).data.toList = s.data.toList.drop a := drop_extract s a
  obtain ⟨x, ex⟩ : ∃ x, s.extract a s.size = x := ⟨_, rfl⟩
  rw [ex] at hx hxl
  obtain ⟨T1, T2, T3, T4⟩ := after16 x (by omega)
  have F0 := Lib.hid (show (Rd.mk x 0 0 0).fine from ⟨by show x.size ≤ 1000000; omega, Nat.zero_le _⟩)
  have N0 := Lib.hid (read_n s x a hxl)
  have N1 := Lib.hid (read_q s x a hxl)
  have N2 := Lib.hid (read_c s x a hxl)
  have HX := Lib.hid hx
  have HXL := Lib.hid hxl
  have hn4 := Lib.hid (fN_lt s.data.toList a)
  have hq8 := Lib.hid (fQ_lt s.data.toList a)
  clear hx hxl
  go_enter Tryz.func108, Tryz.ntmps108
  go_wp2_with fail
  obtain ⟨w0, ew0⟩ : ∃ z, w.alloc (.cells #[.int .i64 0, .string ⟨#[]⟩, .int .i64 0] 60) = z := ⟨_, rfl⟩
  have hr0 : w0.heap[w.heap.size]? = some (.cells (frCells 0 ⟨#[]⟩ 0) 60) := by rw [← ew0]; exact heap_alloc_new _ _
  have hz0 : w0.heap.size = w.heap.size + 1 := by rw [← ew0]; simp
  have hb0 : Below w.heap.size w w0 := by rw [← ew0]; exact (Below.refl _ _).alloc (Nat.le_refl _) _
  rw [ew0]
  clear ew0
  obtain ⟨g, eg⟩ : ∃ g, w.heap.size = g := ⟨_, rfl⟩
  rw [eg] at hr0 hz0 hb0 ⊢
  have HR0 := Lib.hid hr0
  have HZ0 := Lib.hid hz0
  have HB0 := Lib.hid hb0
  have EG := Lib.hid eg
  clear hr0 hz0 hb0 eg
  refine (rNew x w0).mono ?_
  rintro e w1 ⟨rfl, hr1, hb1⟩
  rw [HZ0.out] at hr1 hb1 ⊢
  have HB1 := Lib.hid hb1
  go_wp2_with fail
  refine (rU32 (g + 1) _ w1 F0.out hr1).mono ?_
  rintro e w2 ⟨rfl, hr2, hb2⟩
  have HB2 := Lib.hid (HB1.out.trans hb2)
  clear hr1 hb1 HB1 hb2
  rw [T2, N0.out]
  obtain ⟨n, en⟩ : ∃ n, fN s.data.toList a = n := ⟨_, rfl⟩
  rw [en] at hn4 ⊢
  have EN := Lib.hid en
  clear en
  go_wp2_with fail
  refine (rU64 (g + 1) _ w2 (F0.out.next 4) hr2).mono ?_
  rintro e w3 ⟨rfl, hr3, hb3⟩
  have HB3 := Lib.hid (HB2.out.trans hb3)
  clear hr2 HB2 hb3
  rw [T3, N1.out]
  obtain ⟨q, eq⟩ : ∃ n, fQ s.data.toList a = n := ⟨_, rfl⟩
  rw [eq] at hq8 ⊢
  have EQ := Lib.hid eq
  clear eq
  go_wp2_with fail
  refine (rLow (g + 1) _ w3 ((F0.out.next 4).next 8) hr3).mono ?_
  rintro e w4 ⟨rfl, hr4, hb4⟩
  have HB4 := Lib.hid (HB3.out.trans hb4)
  clear hr3 HB3 hb4
  rw [T4, N2.out]
  obtain ⟨c, ec⟩ : ∃ c, lowN (sl s.data.toList (a + 12) 4) = c := ⟨_, rfl⟩
  rw [ec]
  have EC := Lib.hid ec
  clear ec
  rw [T1] at hr4
  clear T1 T2 T3 T4 N0 N1 N2
  have HR4 := Lib.hid hr4
  clear hr4
  go_wp2_with fail
  refine (rErr (g + 1) _ w4 HR4.out).mono ?_
  rintro e w5 ⟨rfl, hb5⟩
  have HB5 := Lib.hid (HB4.out.trans (hb5.mono (by have := HR4.out.lt; omega)))
  have HR5 := Lib.hid (HR4.out.keep hb5 HR4.out.lt)
  clear HB4 hb5 HR4
  have HC := Lib.hid (show w5.heap[g]? = some (.cells (frCells 0 ⟨#[]⟩ 0) 60) by rw [HB5.out.block g (by omega)]; exact HR0.out)
  have HW := Lib.hid (show Below g w w5 from HB0.out.trans (HB5.out.mono (by omega)))
  clear HB5 HR0 HB0 HZ0
  rw [EN.out] at h h'
  have d3 : decide ((4096 : Int) < (n : Int)) = false := decide_eq_false (by omega)
  have hwn : IntKind.i64.wrap (n : Int) = (n : Int) := IntWalk.i64_in _ (by omega)
  have HN := Lib.hid h
  have HN' := Lib.hid h'
  clear h h'
  go_wp2_with fail
  refine (length_any n _).mono ?_
  rintro e w' ⟨rfl, rfl⟩
  have d4 : decide (lenOk (n : Int)) = true := decide_eq_true (by have := HN.out; have := HN'.out; unfold lenOk; omega)
  rw [d4]
  rw [EQ.out] at hq
  have d5 : decide ((1048576 : Int) ≤ (q : Int)) = false := decide_eq_false (by omega)
  have HQ := Lib.hid hq
  clear hq
  go_wp2_with fail
  have hcan : ¬ (Rd.mk x 16 0 0).can n := by
    intro k
    have := k.2
    have := HX.out
    rw [EN.out] at hl
    have h5 : 16 + n ≤ x.size := k.2
    omega
  have e1 : (Rd.mk x 16 0 0).took n = ⟨#[]⟩ := by unfold Rd.took; rw [if_neg hcan]
  have e2 : (Rd.mk x 16 0 0).after n = ⟨x, 16, 8, 16⟩ := by unfold Rd.after; rw [if_neg hcan, if_pos rfl]
  have hraw := rRaw (g + 1) ⟨x, 16, 0, 0⟩ n w5 ⟨F0.out.1, by have := HX.out; show 16 ≤ x.size; omega⟩ (by have := HN'.out; omega) HR5.out
  rw [e1, e2] at hraw
  clear e1 e2 hcan
  refine hraw.mono ?_
  rintro e w6 ⟨rfl, hr6, hb6⟩
  clear hraw
  have hc6 := HC.out
  rw [← hb6.block g (by omega)] at hc6
  have HC6 := Lib.hid hc6
  have HW6 := Lib.hid (HW.out.trans (hb6.mono (by omega)))
  have HR6 := Lib.hid hr6
  clear hc6 hb6 hr6 HC HW HR5
  go_wp2_with fail
  refine (rErr (g + 1) _ w6 HR6.out).mono ?_
  rintro e w7 ⟨rfl, hb7⟩
  have HC := Lib.hid (show w7.heap[g]? = some (.cells (frCells 0 ⟨#[]⟩ 0) 60) by rw [hb7.block g (by have := HR6.out.lt; omega)]; exact HC6.out)
  have HW := Lib.hid (HW6.out.trans (hb7.mono (by have := HR6.out.lt; omega)))
  clear hb7 HC6 HW6
  obtain ⟨k0, k1, k2, l0, l1, l2⟩ := fr_cells HC.out
  go_wp2_with fail
  have eg := EG.out
  subst eg
  refine bodyPost_ret_by (results_frame _ _ w.heap.size 0 ⟨#[]⟩ 0 (.int .i64 0) (.int .i64 8) rfl (fr_stored HC.out) rfl rfl) rfl ⟨rfl, fr_below HW.out _ _ _⟩

set_option maxHeartbeats 2000000 in
theorem read_sum (s : ByteArray) (a : Nat) (w : World) (hs : s.size ≤ 1000000) (ha : a + 16 ≤ s.size) (h : 1 ≤ fN s.data.toList a) (h' : fN s.data.toList a ≤ 4096) (hq : fQ s.data.toList a < 1048576) (hl : a + 16 + fN s.data.toList a ≤ s.size) (hm : ¬ fSum s.data.toList a) :
    Calls Tryz.prog 108 #[.string s, .int .i64 a] w
      fun e w' => e = .returned (.tuple #[frV 0 ⟨#[]⟩ 0, .int .i64 0, .int .i64 42]) ∧ Below w.heap.size w w' := by
  have d1 : decide ((a : Int) < 0) = false := decide_eq_false (by omega)
  have d2 : decide (s.size < a) = false := decide_eq_false (by omega)
  have b0 : (0 : Int) ≤ (a : Int) := by omega
  have b1 : (a : Int) ≤ (s.size : Int) := by omega
  have hx : (s.extract a s.size).size = s.size - a := by rw [ByteArray.size_extract]; omega
  have hxl : (s.extract a s.size).data.toList = s.data.toList.drop a := drop_extract s a
  obtain ⟨x, ex⟩ : ∃ x, s.extract a s.size = x := ⟨_, rfl⟩
  rw [ex] at hx hxl
  obtain ⟨T1, T2, T3, T4⟩ := after16 x (by omega)
  have F0 := Lib.hid (show (Rd.mk x 0 0 0).fine from ⟨by show x.size ≤ 1000000; omega, Nat.zero_le _⟩)
  have N0 := Lib.hid (read_n s x a hxl)
  have N1 := Lib.hid (read_q s x a hxl)
  have N2 := Lib.hid (read_c s x a hxl)
  have HX := Lib.hid hx
  have HXL := Lib.hid hxl
  have hn4 := Lib.hid (fN_lt s.data.toList a)
  have hq8 := Lib.hid (fQ_lt s.data.toList a)
  clear hx hxl
  go_enter Tryz.func108, Tryz.ntmps108
  go_wp2_with fail
  obtain ⟨w0, ew0⟩ : ∃ z, w.alloc (.cells #[.int .i64 0, .string ⟨#[]⟩, .int .i64 0] 60) = z := ⟨_, rfl⟩
  have hr0 : w0.heap[w.heap.size]? = some (.cells (frCells 0 ⟨#[]⟩ 0) 60) := by rw [← ew0]; exact heap_alloc_new _ _
  have hz0 : w0.heap.size = w.heap.size + 1 := by rw [← ew0]; simp
  have hb0 : Below w.heap.size w w0 := by rw [← ew0]; exact (Below.refl _ _).alloc (Nat.le_refl _) _
  rw [ew0]
  clear ew0
  obtain ⟨g, eg⟩ : ∃ g, w.heap.size = g := ⟨_, rfl⟩
  rw [eg] at hr0 hz0 hb0 ⊢
  have HR0 := Lib.hid hr0
  have HZ0 := Lib.hid hz0
  have HB0 := Lib.hid hb0
  have EG := Lib.hid eg
  clear hr0 hz0 hb0 eg
  refine (rNew x w0).mono ?_
  rintro e w1 ⟨rfl, hr1, hb1⟩
  rw [HZ0.out] at hr1 hb1 ⊢
  have HB1 := Lib.hid hb1
  go_wp2_with fail
  refine (rU32 (g + 1) _ w1 F0.out hr1).mono ?_
  rintro e w2 ⟨rfl, hr2, hb2⟩
  have HB2 := Lib.hid (HB1.out.trans hb2)
  clear hr1 hb1 HB1 hb2
  rw [T2, N0.out]
  obtain ⟨n, en⟩ : ∃ n, fN s.data.toList a = n := ⟨_, rfl⟩
  rw [en] at hn4 ⊢
  have EN := Lib.hid en
  clear en
  go_wp2_with fail
  refine (rU64 (g + 1) _ w2 (F0.out.next 4) hr2).mono ?_
  rintro e w3 ⟨rfl, hr3, hb3⟩
  have HB3 := Lib.hid (HB2.out.trans hb3)
  clear hr2 HB2 hb3
  rw [T3, N1.out]
  obtain ⟨q, eq⟩ : ∃ n, fQ s.data.toList a = n := ⟨_, rfl⟩
  rw [eq] at hq8 ⊢
  have EQ := Lib.hid eq
  clear eq
  go_wp2_with fail
  refine (rLow (g + 1) _ w3 ((F0.out.next 4).next 8) hr3).mono ?_
  rintro e w4 ⟨rfl, hr4, hb4⟩
  have HB4 := Lib.hid (HB3.out.trans hb4)
  clear hr3 HB3 hb4
  rw [T4, N2.out]
  obtain ⟨c, ec⟩ : ∃ c, lowN (sl s.data.toList (a + 12) 4) = c := ⟨_, rfl⟩
  rw [ec]
  have EC := Lib.hid ec
  clear ec
  rw [T1] at hr4
  clear T1 T2 T3 T4 N0 N1 N2
  have HR4 := Lib.hid hr4
  clear hr4
  go_wp2_with fail
  refine (rErr (g + 1) _ w4 HR4.out).mono ?_
  rintro e w5 ⟨rfl, hb5⟩
  have HB5 := Lib.hid (HB4.out.trans (hb5.mono (by have := HR4.out.lt; omega)))
  have HR5 := Lib.hid (HR4.out.keep hb5 HR4.out.lt)
  clear HB4 hb5 HR4
  have HC := Lib.hid (show w5.heap[g]? = some (.cells (frCells 0 ⟨#[]⟩ 0) 60) by rw [HB5.out.block g (by omega)]; exact HR0.out)
  have HW := Lib.hid (show Below g w w5 from HB0.out.trans (HB5.out.mono (by omega)))
  clear HB5 HR0 HB0 HZ0
  rw [EN.out] at h h'
  have d3 : decide ((4096 : Int) < (n : Int)) = false := decide_eq_false (by omega)
  have hwn : IntKind.i64.wrap (n : Int) = (n : Int) := IntWalk.i64_in _ (by omega)
  have HN := Lib.hid h
  have HN' := Lib.hid h'
  clear h h'
  go_wp2_with fail
  refine (length_any n _).mono ?_
  rintro e w' ⟨rfl, rfl⟩
  have d4 : decide (lenOk (n : Int)) = true := decide_eq_true (by have := HN.out; have := HN'.out; unfold lenOk; omega)
  rw [d4]
  rw [EQ.out] at hq
  have d5 : decide ((1048576 : Int) ≤ (q : Int)) = false := decide_eq_false (by omega)
  have HQ := Lib.hid hq
  clear hq
  go_wp2_with fail
  have hcan : (Rd.mk x 16 0 0).can n := by
    have := HX.out
    rw [EN.out] at hl
    exact ⟨rfl, by show 16 + n ≤ x.size; omega⟩
  have e1 : (Rd.mk x 16 0 0).took n = x.extract 16 (16 + n) := by unfold Rd.took; rw [if_pos hcan]
  have e2 : (Rd.mk x 16 0 0).after n = ⟨x, 16 + n, 0, 0⟩ := by unfold Rd.after; rw [if_pos hcan]
  have hraw := rRaw (g + 1) ⟨x, 16, 0, 0⟩ n w5 ⟨F0.out.1, by have := HX.out; show 16 ≤ x.size; omega⟩ (by have := HN'.out; omega) HR5.out
  rw [e1, e2] at hraw
  clear e1 e2 hcan
  have hyl : (x.extract 16 (16 + n)).data.toList = sl s.data.toList (a + 16) n := ext_sl s x a 16 n HXL.out
  obtain ⟨y, ey⟩ : ∃ y, x.extract 16 (16 + n) = y := ⟨_, rfl⟩
  rw [ey] at hyl hraw
  clear ey
  have hys : y.size ≤ 4096 := by rw [← len_data, hyl]; have := sl_len s.data.toList (a + 16) n; have := HN'.out; omega
  have HYL := Lib.hid hyl
  have HYS := Lib.hid hys
  clear hyl hys
  refine hraw.mono ?_
  rintro e w6 ⟨rfl, hr6, hb6⟩
  clear hraw
  have hc6 := HC.out
  rw [← hb6.block g (by omega)] at hc6
  have HC6 := Lib.hid hc6
  have HW6 := Lib.hid (HW.out.trans (hb6.mono (by omega)))
  have HR6 := Lib.hid hr6
  clear hc6 hb6 hr6 HC HW HR5
  go_wp2_with fail
  refine (rErr (g + 1) _ w6 HR6.out).mono ?_
  rintro e w7 ⟨rfl, hb7⟩
  have HC7 := Lib.hid (show w7.heap[g]? = some (.cells (frCells 0 ⟨#[]⟩ 0) 60) by rw [hb7.block g (by have := HR6.out.lt; omega)]; exact HC6.out)
  have HW7 := Lib.hid (HW6.out.trans (hb7.mono (by have := HR6.out.lt; omega)))
  have HR7 := Lib.hid (HR6.out.keep hb7 HR6.out.lt)
  clear hb7 HC6 HW6 HR6
  have f0 : IntKind.i64.wrap ((a : Int) + 12) = (a : Int) + 12 := IntWalk.i64_in _ (by omega)
  have f1 : (a : Int) ≤ (a : Int) + 12 := by omega
  have f2 : (a : Int) + 12 ≤ (s.size : Int) := by omega
  have f3 : ((a : Int) + 12).toNat = a + 12 := by omega
  have hzl : (s.extract a (a + 12)).data.toList = sl s.data.toList a 12 := sl_extract s a 12
  have hzs : (s.extract a (a + 12)).size = 12 := by rw [ByteArray.size_extract]; omega
  obtain ⟨z, ez⟩ : ∃ z, s.extract a (a + 12) = z := ⟨_, rfl⟩
  rw [ez] at hzl hzs
  have hcat : ¬ 9223372036854775807 < z.size + y.size := by have := HYS.out; omega
  have HO := Lib.hid (fun v : World => of_to (z ++ y) (crc (sl s.data.toList a 12 ++ sl s.data.toList (a + 16) n)) v (by rw [ByteArray.size_append]; have := HYS.out; omega) (by rw [data_app, hzl, HYL.out]))
  clear hzl
  obtain ⟨k, ek⟩ : ∃ k, crc (sl s.data.toList a 12 ++ sl s.data.toList (a + 16) n) = k := ⟨_, rfl⟩
  have hsum : (fSum s.data.toList a ↔ k = c) := by unfold fSum; rw [EN.out, ek, EC.out]
  rw [ek] at HO
  have EK := Lib.hid ek
  clear ek
  rw [hsum] at hm
  have hkc : ((k.toNat : Int) != (c.toNat : Int)) = true := by
    rw [bne_iff_ne]; exact fun e => hm (BitVec.eq_of_toNat_eq (by omega))
  clear hsum
  have HM := Lib.hid hm
  clear hm
  go_wp2_with fail
  with_reducible refine (HO.out w7).mono ?_
  rintro e w8 ⟨rfl, hb8⟩
  have HC := Lib.hid (show w8.heap[g]? = some (.cells (frCells 0 ⟨#[]⟩ 0) 60) by rw [hb8.block g (by have := HR7.out.lt; omega)]; exact HC7.out)
  have HW := Lib.hid (HW7.out.trans (hb8.mono (by have := HR7.out.lt; omega)))
  have HR := Lib.hid (HR7.out.keep hb8 HR7.out.lt)
  clear hb8 HC7 HW7 HR7
  obtain ⟨k0, k1, k2, l0, l1, l2⟩ := fr_cells HC.out
  go_wp2_with fail
  have eg := EG.out
  subst eg
  refine bodyPost_ret_by (results_frame _ _ w.heap.size 0 ⟨#[]⟩ 0 (.int .i64 0) (.int .i64 42) rfl (fr_stored HC.out) rfl rfl) rfl ⟨rfl, fr_below HW.out _ _ _⟩

set_option maxHeartbeats 2000000 in
theorem read_good (s : ByteArray) (a : Nat) (w : World) (hs : s.size ≤ 1000000) (ha : a + 16 ≤ s.size) (h : 1 ≤ fN s.data.toList a) (h' : fN s.data.toList a ≤ 4096) (hq : fQ s.data.toList a < 1048576) (hl : a + 16 + fN s.data.toList a ≤ s.size) (hm : fSum s.data.toList a) :
    Calls Tryz.prog 108 #[.string s, .int .i64 a] w
      fun e w' => e = .returned (.tuple #[frV (fQ s.data.toList a) (bs (sl s.data.toList (a + 16) (fN s.data.toList a))) a, .int .i64 ((a + 16 + fN s.data.toList a : Nat) : Int), .int .i64 0]) ∧ Below w.heap.size w w' := by
  have d1 : decide ((a : Int) < 0) = false := decide_eq_false (by omega)
  have d2 : decide (s.size < a) = false := decide_eq_false (by omega)
  have b0 : (0 : Int) ≤ (a : Int) := by omega
  have b1 : (a : Int) ≤ (s.size : Int) := by omega
  have hx : (s.extract a s.size).size = s.size - a := by rw [ByteArray.size_extract]; omega
  have hxl : (s.extract a s.size).data.toList = s.data.toList.drop a := drop_extract s a
  obtain ⟨x, ex⟩ : ∃ x, s.extract a s.size = x := ⟨_, rfl⟩
  rw [ex] at hx hxl
  obtain ⟨T1, T2, T3, T4⟩ := after16 x (by omega)
  have F0 := Lib.hid (show (Rd.mk x 0 0 0).fine from ⟨by show x.size ≤ 1000000; omega, Nat.zero_le _⟩)
  have N0 := Lib.hid (read_n s x a hxl)
  have N1 := Lib.hid (read_q s x a hxl)
  have N2 := Lib.hid (read_c s x a hxl)
  have HX := Lib.hid hx
  have HXL := Lib.hid hxl
  have hn4 := Lib.hid (fN_lt s.data.toList a)
  have hq8 := Lib.hid (fQ_lt s.data.toList a)
  clear hx hxl
  go_enter Tryz.func108, Tryz.ntmps108
  go_wp2_with fail
  obtain ⟨w0, ew0⟩ : ∃ z, w.alloc (.cells #[.int .i64 0, .string ⟨#[]⟩, .int .i64 0] 60) = z := ⟨_, rfl⟩
  have hr0 : w0.heap[w.heap.size]? = some (.cells (frCells 0 ⟨#[]⟩ 0) 60) := by rw [← ew0]; exact heap_alloc_new _ _
  have hz0 : w0.heap.size = w.heap.size + 1 := by rw [← ew0]; simp
  have hb0 : Below w.heap.size w w0 := by rw [← ew0]; exact (Below.refl _ _).alloc (Nat.le_refl _) _
  rw [ew0]
  clear ew0
  obtain ⟨g, eg⟩ : ∃ g, w.heap.size = g := ⟨_, rfl⟩
  rw [eg] at hr0 hz0 hb0 ⊢
  have HR0 := Lib.hid hr0
  have HZ0 := Lib.hid hz0
  have HB0 := Lib.hid hb0
  have EG := Lib.hid eg
  clear hr0 hz0 hb0 eg
  refine (rNew x w0).mono ?_
  rintro e w1 ⟨rfl, hr1, hb1⟩
  rw [HZ0.out] at hr1 hb1 ⊢
  have HB1 := Lib.hid hb1
  go_wp2_with fail
  refine (rU32 (g + 1) _ w1 F0.out hr1).mono ?_
  rintro e w2 ⟨rfl, hr2, hb2⟩
  have HB2 := Lib.hid (HB1.out.trans hb2)
  clear hr1 hb1 HB1 hb2
  rw [T2, N0.out]
  obtain ⟨n, en⟩ : ∃ n, fN s.data.toList a = n := ⟨_, rfl⟩
  rw [en] at hn4 ⊢
  have EN := Lib.hid en
  clear en
  go_wp2_with fail
  refine (rU64 (g + 1) _ w2 (F0.out.next 4) hr2).mono ?_
  rintro e w3 ⟨rfl, hr3, hb3⟩
  have HB3 := Lib.hid (HB2.out.trans hb3)
  clear hr2 HB2 hb3
  rw [T3, N1.out]
  obtain ⟨q, eq⟩ : ∃ n, fQ s.data.toList a = n := ⟨_, rfl⟩
  rw [eq] at hq8 ⊢
  have EQ := Lib.hid eq
  clear eq
  go_wp2_with fail
  refine (rLow (g + 1) _ w3 ((F0.out.next 4).next 8) hr3).mono ?_
  rintro e w4 ⟨rfl, hr4, hb4⟩
  have HB4 := Lib.hid (HB3.out.trans hb4)
  clear hr3 HB3 hb4
  rw [T4, N2.out]
  obtain ⟨c, ec⟩ : ∃ c, lowN (sl s.data.toList (a + 12) 4) = c := ⟨_, rfl⟩
  rw [ec]
  have EC := Lib.hid ec
  clear ec
  rw [T1] at hr4
  clear T1 T2 T3 T4 N0 N1 N2
  have HR4 := Lib.hid hr4
  clear hr4
  go_wp2_with fail
  refine (rErr (g + 1) _ w4 HR4.out).mono ?_
  rintro e w5 ⟨rfl, hb5⟩
  have HB5 := Lib.hid (HB4.out.trans (hb5.mono (by have := HR4.out.lt; omega)))
  have HR5 := Lib.hid (HR4.out.keep hb5 HR4.out.lt)
  clear HB4 hb5 HR4
  have HC := Lib.hid (show w5.heap[g]? = some (.cells (frCells 0 ⟨#[]⟩ 0) 60) by rw [HB5.out.block g (by omega)]; exact HR0.out)
  have HW := Lib.hid (show Below g w w5 from HB0.out.trans (HB5.out.mono (by omega)))
  clear HB5 HR0 HB0 HZ0
  rw [EN.out] at h h'
  have d3 : decide ((4096 : Int) < (n : Int)) = false := decide_eq_false (by omega)
  have hwn : IntKind.i64.wrap (n : Int) = (n : Int) := IntWalk.i64_in _ (by omega)
  have HN := Lib.hid h
  have HN' := Lib.hid h'
  clear h h'
  go_wp2_with fail
  refine (length_any n _).mono ?_
  rintro e w' ⟨rfl, rfl⟩
  have d4 : decide (lenOk (n : Int)) = true := decide_eq_true (by have := HN.out; have := HN'.out; unfold lenOk; omega)
  rw [d4]
  rw [EQ.out] at hq
  have d5 : decide ((1048576 : Int) ≤ (q : Int)) = false := decide_eq_false (by omega)
  have HQ := Lib.hid hq
  clear hq
  go_wp2_with fail
  have hcan : (Rd.mk x 16 0 0).can n := by
    have := HX.out
    rw [EN.out] at hl
    exact ⟨rfl, by show 16 + n ≤ x.size; omega⟩
  have e1 : (Rd.mk x 16 0 0).took n = x.extract 16 (16 + n) := by unfold Rd.took; rw [if_pos hcan]
  have e2 : (Rd.mk x 16 0 0).after n = ⟨x, 16 + n, 0, 0⟩ := by unfold Rd.after; rw [if_pos hcan]
  have hraw := rRaw (g + 1) ⟨x, 16, 0, 0⟩ n w5 ⟨F0.out.1, by have := HX.out; show 16 ≤ x.size; omega⟩ (by have := HN'.out; omega) HR5.out
  rw [e1, e2] at hraw
  clear e1 e2 hcan
  have hyl : (x.extract 16 (16 + n)).data.toList = sl s.data.toList (a + 16) n := ext_sl s x a 16 n HXL.out
  obtain ⟨y, ey⟩ : ∃ y, x.extract 16 (16 + n) = y := ⟨_, rfl⟩
  rw [ey] at hyl hraw
  clear ey
  have hys : y.size ≤ 4096 := by rw [← len_data, hyl]; have := sl_len s.data.toList (a + 16) n; have := HN'.out; omega
  have HYL := Lib.hid hyl
  have HYS := Lib.hid hys
  clear hyl hys
  refine hraw.mono ?_
  rintro e w6 ⟨rfl, hr6, hb6⟩
  clear hraw
  have hc6 := HC.out
  rw [← hb6.block g (by omega)] at hc6
  have HC6 := Lib.hid hc6
  have HW6 := Lib.hid (HW.out.trans (hb6.mono (by omega)))
  have HR6 := Lib.hid hr6
  clear hc6 hb6 hr6 HC HW HR5
  go_wp2_with fail
  refine (rErr (g + 1) _ w6 HR6.out).mono ?_
  rintro e w7 ⟨rfl, hb7⟩
  have HC7 := Lib.hid (show w7.heap[g]? = some (.cells (frCells 0 ⟨#[]⟩ 0) 60) by rw [hb7.block g (by have := HR6.out.lt; omega)]; exact HC6.out)
  have HW7 := Lib.hid (HW6.out.trans (hb7.mono (by have := HR6.out.lt; omega)))
  have HR7 := Lib.hid (HR6.out.keep hb7 HR6.out.lt)
  clear hb7 HC6 HW6 HR6
  have f0 : IntKind.i64.wrap ((a : Int) + 12) = (a : Int) + 12 := IntWalk.i64_in _ (by omega)
  have f1 : (a : Int) ≤ (a : Int) + 12 := by omega
  have f2 : (a : Int) + 12 ≤ (s.size : Int) := by omega
  have f3 : ((a : Int) + 12).toNat = a + 12 := by omega
  have hzl : (s.extract a (a + 12)).data.toList = sl s.data.toList a 12 := sl_extract s a 12
  have hzs : (s.extract a (a + 12)).size = 12 := by rw [ByteArray.size_extract]; omega
  obtain ⟨z, ez⟩ : ∃ z, s.extract a (a + 12) = z := ⟨_, rfl⟩
  rw [ez] at hzl hzs
  have hcat : ¬ 9223372036854775807 < z.size + y.size := by have := HYS.out; omega
  have HO := Lib.hid (fun v : World => of_to (z ++ y) (crc (sl s.data.toList a 12 ++ sl s.data.toList (a + 16) n)) v (by rw [ByteArray.size_append]; have := HYS.out; omega) (by rw [data_app, hzl, HYL.out]))
  clear hzl
  obtain ⟨k, ek⟩ : ∃ k, crc (sl s.data.toList a 12 ++ sl s.data.toList (a + 16) n) = k := ⟨_, rfl⟩
  have hsum : (fSum s.data.toList a ↔ k = c) := by unfold fSum; rw [EN.out, ek, EC.out]
  rw [ek] at HO
  have EK := Lib.hid ek
  clear ek
  rw [hsum] at hm
  have hkc : ((k.toNat : Int) != (c.toNat : Int)) = false := by
    rw [hm]; simp
  clear hsum
  have HM := Lib.hid hm
  clear hm
  go_wp2_with fail
  with_reducible refine (HO.out w7).mono ?_
  rintro e w8 ⟨rfl, hb8⟩
  have HC := Lib.hid (show w8.heap[g]? = some (.cells (frCells 0 ⟨#[]⟩ 0) 60) by rw [hb8.block g (by have := HR7.out.lt; omega)]; exact HC7.out)
  have HW := Lib.hid (HW7.out.trans (hb8.mono (by have := HR7.out.lt; omega)))
  have HR := Lib.hid (HR7.out.keep hb8 HR7.out.lt)
  clear hb8 HC7 HW7 HR7
  have hwq : IntKind.i64.wrap (q : Int) = (q : Int) := IntWalk.i64_in _ (by have := HQ.out; omega)
  have hwa : IntKind.i64.wrap ((a : Int) + ((16 + n : Nat) : Int)) = ((a + 16 + n : Nat) : Int) := by rw [IntWalk.i64_in _ (by have := HN'.out; omega)]; omega
  go_wp2_with fail
  refine (rAt (g + 1) _ w8 HR.out).mono ?_
  rintro e w9 ⟨rfl, rfl⟩
  obtain ⟨k0, k1, k2, l0, l1, l2⟩ := fr_cells HC.out
  clear hwa
  go_wp2_with fail
  have eg := EG.out
  subst eg
  have hwa : wrap64 ((a : Int) + (16 + (n : Int))) = ((a + 16 + n : Nat) : Int) := by
    have : wrap64 ((a : Int) + (16 + (n : Int))) = (a : Int) + (16 + (n : Int)) := IntWalk.wrap64_in _ (by have := HN'.out; omega)
    rw [this]; omega
  refine bodyPost_ret_by (results_frame _ _ w.heap.size q y a (.int .i64 (wrap64 ((a : Int) + (16 + (n : Int))))) (.int .i64 0) rfl (fr_stored HC.out) rfl rfl) rfl ⟨?_, fr_below HW.out _ _ _⟩
  rw [EQ.out, EN.out, ← HYL.out, bs_of, hwa]

theorem read_any (s : ByteArray) (at_ : Int) (w : World) (hs : s.size ≤ 1000000) :
    Calls Tryz.prog 108 #[.string s, .int .i64 at_] w fun e w' => e = .returned (readV s at_) ∧ Below w.heap.size w w' := by
  have hl : s.data.toList.length = s.size := rfl
  unfold readV rdE fE
  rw [hl]
  by_cases h0 : at_ < 0 ∨ (s.size : Int) < at_
  · rw [if_pos h0]; exact read_arg s at_ w h0
  rw [if_neg h0]
  obtain ⟨a, rfl⟩ : ∃ a : Nat, at_ = a := ⟨at_.toNat, by omega⟩
  rw [Int.toNat_natCast]
  by_cases h1 : s.size < a + 16
  · rw [if_pos h1]; exact read_short s a w hs (by omega) h1
  rw [if_neg h1]
  by_cases h2 : fOk s.data.toList a
  · rw [if_neg (not_not_intro h2)]
    obtain ⟨⟨k1, k2⟩, k3⟩ := h2
    by_cases h3 : s.size < a + 16 + fN s.data.toList a
    · rw [if_pos h3]; exact read_cut s a w hs (by omega) k1 k2 k3 h3
    rw [if_neg h3]
    by_cases h4 : fSum s.data.toList a
    · rw [if_neg (not_not_intro h4)]; exact read_good s a w hs (by omega) k1 k2 k3 (by omega) h4
    · rw [if_pos h4]; exact read_sum s a w hs (by omega) k1 k2 k3 (by omega) h4
  · rw [if_pos h2]
    by_cases k1 : fN s.data.toList a = 0
    · exact read_zero s a w hs (by omega) k1
    by_cases k2 : 4096 < fN s.data.toList a
    · exact read_big s a w hs (by omega) k2
    by_cases k3 : 1048576 ≤ fQ s.data.toList a
    · exact read_seq s a w hs (by omega) (by omega) (by omega) k3
    · exact absurd ⟨⟨by omega, by omega⟩, by omega⟩ h2

end Go.Proofs.YtaonjbkkgeiniaaGreatDoor

/- frame.frames, its closure, frame.Scan. -/
namespace Go.Proofs.YtaonjbkkgeiniaaGreatDoor
open Go.RowKit Go.Shelf
attribute [local go_sem] Oper.semAt_some

def fNext (l : List UInt8) (a : Nat) : Nat := a + 16 + fN l a
def fGood (l : List UInt8) (a : Nat) (first : Int) : Prop := fE l a = 0 ∧ (fQ l a : Int) = first
instance (l : List UInt8) (a : Nat) (first : Int) : Decidable (fGood l a first) := by unfold fGood; infer_instance
/-- the places of the frames that are scanned -/
def scanP (l : List UInt8) : Nat → Nat → Int → List Nat
  | 0, _, _ => []
  | k + 1, a, first => if fGood l a first then a :: scanP l k (fNext l a) (first + 1) else []
theorem fE_zero {l : List UInt8} {a : Nat} (h : fE l a = 0) : a + 16 ≤ l.length ∧ fOk l a ∧ fNext l a ≤ l.length ∧ fSum l a := by
  unfold fE at h
  unfold fNext
  by_cases h1 : l.length < a + 16
  · rw [if_pos h1] at h; cases h
  rw [if_neg h1] at h
  by_cases h2 : fOk l a
  · rw [if_neg (not_not_intro h2)] at h
    by_cases h3 : l.length < a + 16 + fN l a
    · rw [if_pos h3] at h; cases h
    rw [if_neg h3] at h
    by_cases h4 : fSum l a
    · exact ⟨by omega, h2, by omega, h4⟩
    · rw [if_pos h4] at h; cases h
  · rw [if_pos h2] at h; cases h

/-- a frame as a value -/
def frAt (s : ByteArray) (a : Nat) : Value := frV (fQ s.data.toList a) (bs (sl s.data.toList (a + 16) (fN s.data.toList a))) a
theorem readV_good (s : ByteArray) (a : Nat) (ha : a ≤ s.size) (h : fE s.data.toList a = 0) : readV s a = .tuple #[frAt s a, .int .i64 ((fNext s.data.toList a : Nat) : Int), .int .i64 0] := by
  have hl : s.data.toList.length = s.size := rfl
  have e : rdE s.data.toList a = 0 := by unfold rdE; rw [if_neg (by omega), Int.toNat_natCast, h]
  unfold readV frAt fNext
  rw [if_pos e, Int.toNat_natCast]
theorem readV_bad (s : ByteArray) (a : Nat) (ha : a ≤ s.size) (h : fE s.data.toList a ≠ 0) : readV s a = .tuple #[frV 0 ⟨#[]⟩ 0, .int .i64 0, .int .i64 (fE s.data.toList a)] := by
  have hl : s.data.toList.length = s.size := rfl
  have e : rdE s.data.toList a = fE s.data.toList a := by unfold rdE; rw [if_neg (by omega), Int.toNat_natCast]
  unfold readV
  rw [e, if_neg h]

def encF (s : ByteArray) (a : Nat) : Array Value := #[.int .i64 ((fNext s.data.toList a : Nat) : Int), frAt s a]

theorem heap_setCell_ne (w : World) (p : Addr) (v : Value) {k : Nat} (h : k ≠ p.block) : (w.setCell p v).heap[k]? = w.heap[k]? := by
  show (w.heap.modify p.block _)[k]? = _
  rw [Array.getElem?_modify]
  simp [h.symm]
theorem KeepX.drew {E : Nat → Prop} {A B : World} (h : KeepX E A B) : KeepX E A B.drew := ⟨h.os, h.tape, h.output, h.size, h.block⟩

set_option maxHeartbeats 2000000 in
theorem frames1_in (n : Nat) (s : ByteArray) (a0 : Nat) (f0 : Int) (hs : s.size ≤ 1000000) (ha : a0 ≤ s.size) (l b : Nat) (J : List Nat → World → Prop)
    (hJ : ∀ pre W W', J pre W → KeepX (fun k => k = b + 1 ∨ k = b + 2) W W' → J pre W')
    (hY : ∀ pre x W1, pre.length ≤ s.size → J pre W1 → YieldAt Fence.wide (n - 1) Tryz.prog l (encF s x) W1 fun e W' => e = .returned (.bool true) ∧ J (pre ++ [x]) W' ∧ (∀ k, (k = b ∨ k = b + 1 ∨ k = b + 2) → W'.heap[k]? = W1.heap[k]?))
    (W : World) (h0 : W.heap[b]? = some (.cells #[.string s] 9)) (h1 : W.heap[b + 1]? = some (.cells #[.int .i64 a0] 3)) (h2 : W.heap[b + 2]? = some (.cells #[.int .i64 f0] 2)) (hJ0 : J [] W) :
    CallsIn Fence.wide n Tryz.prog 107 #[.func (.yield l) #[] #[], .pointer (some ⟨b, 0, none⟩), .pointer (some ⟨b + 1, 0, none⟩), .pointer (some ⟨b + 2, 0, none⟩)] W fun e W' => (∃ v, e = .returned v) ∧
      ∃ xs, xs = scanP s.data.toList (s.size + 1) a0 f0 ∧ J xs W' := by
  refine callsIn_of_wp Tryz.func107 rfl trivial ?_
  simp only [Tryz.ntmps107, List.size_toArray, List.length_cons, List.length_nil, Nat.reduceAdd, Nat.reduceSub, Array.replicate_succ, Array.replicate_zero, List.push_toArray, List.append_toArray, List.nil_append, List.cons_append]
  refine wpIn_scope_label 0 (fun a w => ∃ (pre : List Nat) (p k : Nat) (f : Int) (u4 u5 u6 u7 u8 u9 u10 u11 u12 u13 u14 u15 u16 u17 u18 u19 u20 u21 u22 u23 u24 u25 u26 u27 u28 u29 u30 u31 : Value),
    a = { tmps := #[.func (.yield l) #[] #[], .pointer (some ⟨b, 0, none⟩), .pointer (some ⟨b + 1, 0, none⟩), .pointer (some ⟨b + 2, 0, none⟩), u4, u5, u6, u7, u8, u9, u10, u11, u12, u13, u14, u15, u16, u17, u18, u19, u20, u21, u22, u23, u24, u25, u26, u27, u28, u29, u30, u31], defers := [] } ∧
    w.heap[b]? = some (.cells #[.string s] 9) ∧ w.heap[b + 1]? = some (.cells #[.int .i64 p] 3) ∧ w.heap[b + 2]? = some (.cells #[.int .i64 f] 2) ∧ J pre w ∧
    p ≤ s.size ∧ pre.length ≤ p ∧ s.size < p + k ∧ scanP s.data.toList (s.size + 1) a0 f0 = pre ++ scanP s.data.toList k p f)
    (fun _ w => s.size - (intOf ((w.cell? ⟨b + 1, 0, none⟩).getD undef)).toNat) ?start ?pass
  case start => exact ⟨[], a0, s.size + 1, f0, _, _, _, _, _, _, _, _, _, _, _, _, _, _, _, _, _, _, _, _, _, _, _, _, _, _, _, _, rfl, h0, h1, h2, hJ0, ha, Nat.zero_le _, by omega, rfl⟩
  case pass =>
    rintro a w ⟨pre, p, k, f, u4, u5, u6, u7, u8, u9, u10, u11, u12, u13, u14, u15, u16, u17, u18, u19, u20, u21, u22, u23, u24, u25, u26, u27, u28, u29, u30, u31, rfl, k0, k1, k2, hj, hp, hpl, hk, hsc⟩
    have c0 : w.cell? ⟨b, 0, none⟩ = some (.string s) := by rw [cell_of_row _ _ _ _ _ _ k0]; rfl
    have c1 : w.cell? ⟨b + 1, 0, none⟩ = some (.int .i64 p) := by rw [cell_of_row _ _ _ _ _ _ k1]; rfl
    have c2 : w.cell? ⟨b + 2, 0, none⟩ = some (.int .i64 f) := by rw [cell_of_row _ _ _ _ _ _ k2]; rfl
    have hb0 := (Array.getElem?_eq_some_iff.1 k0).1
    have hb1 := (Array.getElem?_eq_some_iff.1 k1).1
    have hb2 := (Array.getElem?_eq_some_iff.1 k2).1
    obtain ⟨k, rfl⟩ : ∃ j, k = j + 1 := ⟨k - 1, by omega⟩
    by_cases hg : fE s.data.toList p = 0
    · have hr := read_any s p w hs
      rw [readV_good s p hp hg] at hr
      obtain ⟨g1, g2, g3, g4⟩ := fE_zero hg
      have hlen : s.data.toList.length = s.size := rfl
      have hq : fQ s.data.toList p < 1048576 := g2.2
      unfold frAt frV frCells at hr
      have hn := Lib.hid (show encF s p = #[.int .i64 ((fNext s.data.toList p : Nat) : Int), .agg #[.int .i64 (fQ s.data.toList p), .string (bs (sl s.data.toList (p + 16) (fN s.data.toList p))), .int .i64 p]] from rfl)
      by_cases hf : (fQ s.data.toList p : Int) = f
      · have hsc2 : scanP s.data.toList (s.size + 1) a0 f0 = (pre ++ [p]) ++ scanP s.data.toList k (fNext s.data.toList p) (f + 1) := by
          rw [hsc, scanP, if_pos ⟨hg, hf⟩]; simp
        have hnx : p + 17 ≤ fNext s.data.toList p := by unfold fNext; have := g2.1.1; omega
        obtain ⟨y, ey⟩ : ∃ y, bs (sl s.data.toList (p + 16) (fN s.data.toList p)) = y := ⟨_, rfl⟩
        rw [ey] at hr hn
        obtain ⟨q, eq⟩ : ∃ q, fQ s.data.toList p = q := ⟨_, rfl⟩
        rw [eq] at hr hn hf hq
        obtain ⟨m, em⟩ : ∃ m, fNext s.data.toList p = m := ⟨_, rfl⟩
        rw [em] at hr hn hsc2 hnx g3
        subst hf
        have hw1 : IntKind.i64.wrap ((q : Int) + 1) = (q : Int) + 1 := IntWalk.i64_in _ (by omega)
        have C1 := Lib.hid c1
        have HR := Lib.hid hr
        have HS := Lib.hid hsc2
        clear hr hsc2 hsc g1 g2 g4
        gi_wp2
        refine ⟨trivial, (fun h => by cases h), ?_⟩
        refine (callsIn_wide.2 HR.out).mono ?_
        rintro e w1 ⟨rfl, hbw⟩
        have d2 : w1.cell? ⟨b + 2, 0, none⟩ = some (.int .i64 q) := by rw [cell_of_row _ _ _ _ _ _ ((hbw.block _ hb2).trans k2)]; rfl
        have hj1 : J pre (w1.alloc (.cells #[.int .i64 q, .string y, .int .i64 p] 60)) := hJ _ _ _ (hJ _ _ _ hj (KeepX.of_below hbw)) (KeepX.of_below ((Below.refl _ _).alloc (Nat.le_refl _) _))
        have r1 : w1.heap[b + 1]? = some (.cells #[.int .i64 p] 3) := (hbw.block _ hb1).trans k1
        have r2 : w1.heap[b + 2]? = some (.cells #[.int .i64 q] 2) := (hbw.block _ hb2).trans k2
        have r0 : w1.heap[b]? = some (.cells #[.string s] 9) := (hbw.block _ hb0).trans k0
        have r0' := (Below.heap_alloc w1 (.cells #[.int .i64 q, .string y, .int .i64 p] 60) b (Array.getElem?_eq_some_iff.1 r0).1).trans r0
        have r1' := (Below.heap_alloc w1 (.cells #[.int .i64 q, .string y, .int .i64 p] 60) (b + 1) (Array.getElem?_eq_some_iff.1 r1).1).trans r1
        have r2' := (Below.heap_alloc w1 (.cells #[.int .i64 q, .string y, .int .i64 p] 60) (b + 2) (Array.getElem?_eq_some_iff.1 r2).1).trans r2
        have d3 : (w1.alloc (.cells #[.int .i64 q, .string y, .int .i64 p] 60)).cell? ⟨b + 2, 0, none⟩ = some (.int .i64 q) := by rw [cell_of_row _ _ _ _ _ _ r2']; rfl
        obtain ⟨fn, tmps, assign, body, hy, hR⟩ := hY pre p _ (by omega) hj1
        rw [hn.out] at hy
        have R0 := Lib.hid r0'
        have R1 := Lib.hid r1'
        have R2 := Lib.hid r2'
        clear r0 r1 r2 r0' r1' r2' hj1
        gi_wp2
        refine ⟨(fun h => by cases h), hR.mono ?_⟩
        rintro e W3 ⟨rfl, hJ3, hz3⟩
        have k0' : W3.heap[b]? = _ := (hz3 b (.inl rfl)).trans R0.out
        have k1' : W3.heap[b + 1]? = _ := (hz3 (b + 1) (.inr (.inl rfl))).trans R1.out
        have k2' : W3.heap[b + 2]? = _ := (hz3 (b + 2) (.inr (.inr rfl))).trans R2.out
        have c1' : W3.cell? ⟨b + 1, 0, none⟩ = some (.int .i64 p) := by rw [cell_of_row _ _ _ _ _ _ k1']; rfl
        have c2' : W3.cell? ⟨b + 2, 0, none⟩ = some (.int .i64 q) := by rw [cell_of_row _ _ _ _ _ _ k2']; rfl
        have f1' : W3.frozen? ⟨b + 1, 0, none⟩ = false := frozen_of_row _ _ _ _ _ k1'
        have f2' : W3.frozen? ⟨b + 2, 0, none⟩ = false := frozen_of_row _ _ _ _ _ k2'
        clear R0 R1 R2 hR hy d3 d2 hz3 k0 k1 k2 c0 c1 c2 hbw HR hj
        gi_wp2
        refine wpIn_wide.2 ?_
        go_region
        all_goals gi_wp2
        refine wpIn_goto ?_
        have n1 := heap_setCell_same W3 (b + 1) 0 _ _ (.int .i64 m) k1'
        have n2 : (W3.setCell ⟨b + 1, 0, none⟩ (.int .i64 m)).heap[b + 2]? = _ := (heap_setCell_ne _ _ _ (by show b + 2 ≠ b + 1; omega)).trans k2'
        have n3 := heap_setCell_same _ (b + 2) 0 _ _ (.int .i64 ((q : Int) + 1)) n2
        have n1' : ((W3.setCell ⟨b + 1, 0, none⟩ (.int .i64 m)).setCell ⟨b + 2, 0, none⟩ (.int .i64 ((q : Int) + 1))).heap[b + 1]? = some (.cells #[.int .i64 m] 3) := (heap_setCell_ne _ _ _ (by show b + 1 ≠ b + 2; omega)).trans n1
        have n0 : ((W3.setCell ⟨b + 1, 0, none⟩ (.int .i64 m)).setCell ⟨b + 2, 0, none⟩ (.int .i64 ((q : Int) + 1))).heap[b]? = some (.cells #[.string s] 9) :=
          (heap_setCell_ne _ _ _ (by show b ≠ b + 2; omega)).trans ((heap_setCell_ne _ _ _ (by show b ≠ b + 1; omega)).trans k0')
        refine ⟨rfl, ⟨pre ++ [p], m, k, (q : Int) + 1, _, _, _, _, _, _, _, _, _, _, _, _, _, _, _, _, _, _, _, _, _, _, _, _, _, _, _, _, rfl, n0, n1', n3, ?_, ?_, ?_, ?_, HS.out⟩, ?_⟩
        · exact hJ _ _ _ hJ3 (((KeepX.refl _ W3).setCell (p := ⟨b + 1, 0, none⟩) (.inl rfl) _).setCell (p := ⟨b + 2, 0, none⟩) (.inr rfl) _).drew
        · omega
        · simp; omega
        · omega
        · have cn : (((W3.setCell ⟨b + 1, 0, none⟩ (.int .i64 m)).setCell ⟨b + 2, 0, none⟩ (.int .i64 ((q : Int) + 1))).drew).cell? ⟨b + 1, 0, none⟩ = some (.int .i64 m) := by
            rw [World.cell?_drew, cell_of_row _ _ _ _ _ _ n1']; rfl
          rw [cn, C1.out]
          simp [intOf]
          omega
      · have hx : scanP s.data.toList (k + 1) p f = [] := by rw [scanP, if_neg (fun h => hf h.2)]
        have d0 : ((fQ s.data.toList p : Int) == f) = false := by rw [beq_eq_false_iff_ne]; exact hf
        obtain ⟨y, ey⟩ : ∃ y, bs (sl s.data.toList (p + 16) (fN s.data.toList p)) = y := ⟨_, rfl⟩
        rw [ey] at hr
        obtain ⟨q, eq⟩ : ∃ q, fQ s.data.toList p = q := ⟨_, rfl⟩
        rw [eq] at hr d0
        obtain ⟨m, em⟩ : ∃ m, fNext s.data.toList p = m := ⟨_, rfl⟩
        rw [em] at hr
        have HR := Lib.hid hr
        clear hr
        gi_wp2
        refine ⟨trivial, (fun h => by cases h), ?_⟩
        refine (callsIn_wide.2 HR.out).mono ?_
        rintro e w1 ⟨rfl, hbw⟩
        have r2 : w1.heap[b + 2]? = some (.cells #[.int .i64 f] 2) := (hbw.block _ hb2).trans k2
        have r2' := (Below.heap_alloc w1 (.cells #[.int .i64 q, .string y, .int .i64 p] 60) (b + 2) (Array.getElem?_eq_some_iff.1 r2).1).trans r2
        have d3 : (w1.alloc (.cells #[.int .i64 q, .string y, .int .i64 p] 60)).cell? ⟨b + 2, 0, none⟩ = some (.int .i64 f) := by rw [cell_of_row _ _ _ _ _ _ r2']; rfl
        have hj1 : J pre (w1.alloc (.cells #[.int .i64 q, .string y, .int .i64 p] 60)) := hJ _ _ _ (hJ _ _ _ hj (KeepX.of_below hbw)) (KeepX.of_below ((Below.refl _ _).alloc (Nat.le_refl _) _))
        have HJ1 := Lib.hid hj1
        clear r2 r2' hj1
        gi_wp2
        refine ⟨fun _ h => (by cases h), ?_⟩
        gi_wp2
        simp only [Exit.jump]
        go_end0
        exact ⟨⟨_, rfl⟩, _, rfl, by rw [hsc, hx, List.append_nil]; exact HJ1.out⟩
    · have hx : scanP s.data.toList (k + 1) p f = [] := by rw [scanP, if_neg (fun h => hg h.1)]
      have hr := read_any s p w hs
      rw [readV_bad s p hp hg] at hr
      obtain ⟨e, ee⟩ : ∃ e, fE s.data.toList p = e := ⟨_, rfl⟩
      rw [ee] at hr hg
      have d0 : ((e : Int) == 0) = false := by rw [beq_eq_false_iff_ne]; omega
      unfold frV frCells at hr
      have HR := Lib.hid hr
      clear hr
      gi_wp2
      refine ⟨trivial, (fun h => by cases h), ?_⟩
      refine (callsIn_wide.2 HR.out).mono ?_
      rintro e w1 ⟨rfl, hbw⟩
      have HJ1 := Lib.hid (hJ _ _ _ (hJ _ _ _ hj (KeepX.of_below hbw)) (KeepX.of_below ((Below.refl _ _).alloc (Nat.le_refl _) (.cells #[.int .i64 0, .string ⟨#[]⟩, .int .i64 0] 60))))
      gi_wp2
      refine ⟨fun _ h => (by cases h), ?_⟩
      gi_wp2
      simp only [Exit.jump]
      go_end0
      exact ⟨⟨_, rfl⟩, _, rfl, by rw [hsc, hx, List.append_nil]; exact HJ1.out⟩
end Go.Proofs.YtaonjbkkgeiniaaGreatDoor

/- frame.frames, frame.Scan. -/
namespace Go.Proofs.YtaonjbkkgeiniaaGreatDoor
open Go.RowKit Go.Shelf
attribute [local go_sem] Oper.semAt_some

set_option maxHeartbeats 400000 in
theorem frames_any (s : ByteArray) (a : Int) (f : Int) (w : World) :
    Calls Tryz.prog 87 #[.string s, .int .i64 a, .int .i64 f] w
      fun e w' => e = .returned (.func (.func 107) #[] #[.pointer (some ⟨w.heap.size, 0, none⟩), .pointer (some ⟨w.heap.size + 1, 0, none⟩), .pointer (some ⟨w.heap.size + 1 + 1, 0, none⟩)]) ∧
        ((w.alloc (.cells #[.string s] 9)).alloc (.cells #[.int .i64 a] 3)).alloc (.cells #[.int .i64 f] 2) = w' := by
  go_enter Tryz.func87, Tryz.ntmps87
  go_wp2_with fail
  go_ret
  exact ⟨rfl, rfl⟩

/-- the cells of the frames at these places -/
def frRow (s : ByteArray) (xs : List Nat) : List Value := xs.flatMap fun a => (frCells (fQ s.data.toList a) (bs (sl s.data.toList (a + 16) (fN s.data.toList a))) a).toList
theorem frRow_snoc (s : ByteArray) (xs : List Nat) (a : Nat) : frRow s (xs ++ [a]) = frRow s xs ++ (frCells (fQ s.data.toList a) (bs (sl s.data.toList (a + 16) (fN s.data.toList a))) a).toList := by unfold frRow; simp
/-- where the last frame ends -/
def goodP (l : List UInt8) (a : Nat) (xs : List Nat) : Nat := xs.foldl (fun _ x => fNext l x) a
theorem goodP_snoc (l : List UInt8) (a : Nat) (xs : List Nat) (x : Nat) : goodP l a (xs ++ [x]) = fNext l x := by unfold goodP; simp
theorem infoF : (Tryz.prog.info? 60).map (fun i => (i.zero, i.size, i.bytes)) = some (some (.agg #[.int .i64 0, .string ⟨#[]⟩, .int .i64 0]), 3, 32) := by kernel_rfl

/-- between two rounds -/
def scI (s : ByteArray) (a0 : Nat) (w : World) (xs : List Nat) (W : World) : Prop :=
  ∃ oa cap, W.heap[w.heap.size]? = some (.cells #[.slice oa xs.length cap] 44) ∧ W.ownsRow (w.heap.size + 5) 60 3 (.slice oa xs.length cap) xs.length (frRow s xs) ∧
    W.heap[w.heap.size + 1]? = some (.cells #[.int .i64 (goodP s.data.toList a0 xs)] 3) ∧ Below w.heap.size w W

theorem ownsRow_keep {B : Nat} {e : TypeId} {k : Nat} {v : Value} {n : Nat} {xs : List Value} {w w' : World} (h : w.ownsRow B e k v n xs) (hb : ∀ g o, B ≤ g → w.heap[g]? = some o → o.isCells = true → w'.heap[g]? = some o) : w'.ownsRow B e k v n xs :=
  ⟨h.1, h.2.imp id (fun ⟨g, c, cur, e1, e2, e3, e4⟩ => ⟨g, c, cur, e1, e2, hb _ _ e2 e3 rfl, e4⟩)⟩

theorem scI_keep {s : ByteArray} {a0 : Nat} {w : World} {xs : List Nat} {W W' : World} (h : scI s a0 w xs W) (hk : KeepX (fun k => k = w.heap.size + 2 + 1 ∨ k = w.heap.size + 2 + 2) W W') : scI s a0 w xs W' := by
  obtain ⟨oa, cap, h1, h2, h3, h4⟩ := h
  have l1 := (Array.getElem?_eq_some_iff.1 h1).1
  have l3 := (Array.getElem?_eq_some_iff.1 h3).1
  refine ⟨oa, cap, (hk.block _ l1 (by omega)).trans h1, ownsRow_keep h2 (fun g o hg ho _ => (hk.block _ (Array.getElem?_eq_some_iff.1 ho).1 (by omega)).trans ho), (hk.block _ l3 (by omega)).trans h3,
    ⟨hk.os.trans h4.os, hk.tape.trans h4.tape, hk.output.trans h4.output, Nat.le_trans h4.size hk.size, fun k hk' => (hk.block k (by have := h4.size; omega) (by omega)).trans (h4.block k hk')⟩⟩
theorem scI_put {s : ByteArray} {a0 : Nat} {w : World} {xs : List Nat} {W : World} {l : Nat} {o : Obj} (h : scI s a0 w xs W) (hl : w.heap.size + 5 ≤ l) (ho : ∃ o', W.heap[l]? = some o' ∧ o'.isCells = false) : scI s a0 w xs (W.putObj l o) := by
  obtain ⟨oa, cap, h1, h2, h3, h4⟩ := h
  obtain ⟨o', ho1, ho2⟩ := ho
  refine ⟨oa, cap, (World.putObj_heap_other (by omega)).trans h1, ownsRow_keep h2 (fun g o2 hg ho3 ho4 => (World.putObj_heap_other (fun e => by subst e; rw [ho1] at ho3; cases ho3; rw [ho2] at ho4; cases ho4)).trans ho3),
    (World.putObj_heap_other (by omega)).trans h3, ?_⟩
  have hg := grownBy_putObj' W l o
  exact h4.grown hg h4.size (fun k e => by cases e; omega)

theorem sc_arm {w W2 w1 : World} {ob : Obj} {k cap : Nat} {oa : Option Addr} {xs ys : List Value} {good : Int} {v' : Value}
    (h1 : W2.heap[w.heap.size]? = some (.cells #[.slice oa k cap] 44)) (h2 : W2.ownsRow (w.heap.size + 5) 60 3 (.slice oa k cap) k xs) (h3 : W2.heap[w.heap.size + 1]? = some (.cells #[.int .i64 good] 3)) (h4 : Below w.heap.size w W2)
    (hsz : w.heap.size + 5 ≤ W2.heap.size) (hown : w1.ownsRow (w.heap.size + 5) 60 3 v' (k + 1) ys) (hg : (W2.alloc ob).grownBy w1 (Value.ownBlock (.slice oa k cap))) :
    ∃ g' cap', v' = .slice (some ⟨g', 0, none⟩) (k + 1) cap' ∧ w1.heap[w.heap.size]? = some (.cells #[.slice oa k cap] 44) ∧ w1.heap[w.heap.size + 1]? = some (.cells #[.int .i64 good] 3) ∧
      KeepsOthers W2 w1 ∧ (∀ i, i < w.heap.size + 5 → w1.heap[i]? = W2.heap[i]?) ∧ Below w.heap.size w w1 := by
  obtain ⟨g', cap', rfl⟩ := ownsRow_succ hown
  have hlow : ∀ i, i < w.heap.size + 5 → w1.heap[i]? = W2.heap[i]? := by
    intro i hi
    rw [hg.block i (by simp; omega) (fun e => by have := (h2.lt i e.symm).1; omega)]
    exact heap_alloc_old _ _ _ (by omega)
  refine ⟨g', cap', rfl, (hlow _ (by omega)).trans h1, (hlow _ (by omega)).trans h3, ?_, hlow, ?_⟩
  · refine (KeepsOthers.alloc W2 ob).trans (KeepsOthers.of_grownBy hg ?_)
    intro j o hj ho
    rcases h2.2 with ⟨hv, _⟩ | ⟨g, c, cur, hv, hgB, hcur, _⟩
    · cases hv; simp [Value.ownBlock] at hj
    · cases hv
      simp [Value.ownBlock] at hj
      subst hj
      rw [heap_alloc_old _ _ _ (Array.getElem?_eq_some_iff.1 hcur).1, hcur] at ho
      cases ho; rfl
  · refine h4.trans ⟨hg.os, hg.tape, hg.output, ?_, fun i hi => hlow i (by omega)⟩
    have := hg.size
    simp at this
    omega

theorem rows5 (w : World) (A B C D E : Obj) : (((((w.alloc A).alloc B).alloc C).alloc D).alloc E).heap[w.heap.size]? = some A ∧ (((((w.alloc A).alloc B).alloc C).alloc D).alloc E).heap[w.heap.size + 1]? = some B ∧
    (((((w.alloc A).alloc B).alloc C).alloc D).alloc E).heap[w.heap.size + 2]? = some C ∧ (((((w.alloc A).alloc B).alloc C).alloc D).alloc E).heap[w.heap.size + 3]? = some D ∧ (((((w.alloc A).alloc B).alloc C).alloc D).alloc E).heap[w.heap.size + 4]? = some E := by
  refine ⟨?_, ?_, ?_, ?_, ?_⟩
  · rw [heap_alloc_old _ _ _ (by simp only [World.size_alloc]; omega), heap_alloc_old _ _ _ (by simp only [World.size_alloc]; omega), heap_alloc_old _ _ _ (by simp only [World.size_alloc]; omega), heap_alloc_old _ _ _ (by simp), heap_alloc_new]
  · rw [heap_alloc_old _ _ _ (by simp only [World.size_alloc]; omega), heap_alloc_old _ _ _ (by simp only [World.size_alloc]; omega), heap_alloc_old _ _ _ (by simp)]; exact heap_alloc2_new _ _ _
  · rw [heap_alloc_old _ _ _ (by simp only [World.size_alloc]; omega), heap_alloc_old _ _ _ (by simp)]; have := heap_alloc_new ((w.alloc A).alloc B) C; simpa using this
  · rw [heap_alloc_old _ _ _ (by simp)]; have := heap_alloc_new (((w.alloc A).alloc B).alloc C) D; simpa using this
  · have := heap_alloc_new ((((w.alloc A).alloc B).alloc C).alloc D) E; simpa using this

theorem cell_three_new (w : World) (q : Nat) (y : ByteArray) (x : Int) : ∀ j u, (frCells q y x).toList[j]? = some u → (w.alloc (.cells #[.int .i64 q, .string y, .int .i64 x] 60)).cell? ((⟨w.heap.size, 0, none⟩ : Addr).add j) = some u := by
  intro j u hj
  have : (⟨w.heap.size, 0, none⟩ : Addr).add j = ⟨w.heap.size, j, none⟩ := by unfold Addr.add; split <;> simp_all
  rw [this, World.cell?_alloc_new]
  simpa [frCells] using hj

theorem results_scan (tmps : Array Value) (w : World) (g : Nat) (u v : Value) (hp : tmps.getD 6 undef = .pointer (some ⟨g, 0, none⟩)) (hq : tmps.getD 7 undef = .pointer (some ⟨g + 1, 0, none⟩))
    (hu : w.heap[g]? = some (.cells #[u] 44)) (hv : w.heap[g + 1]? = some (.cells #[v] 3)) :
    (results Tryz.f58 tmps).run Tryz.prog w = .ok (.tuple #[u, v]) w := by
  have hp' : tmps[6]?.getD undef = .pointer (some ⟨g, 0, none⟩) := by simpa using hp
  have hq' : tmps[7]?.getD undef = .pointer (some ⟨g + 1, 0, none⟩) := by simpa using hq
  have cu : w.cell? ⟨g, 0, none⟩ = some u := by rw [cell_of_row _ _ _ _ _ _ hu]; rfl
  have cv : w.cell? ⟨g + 1, 0, none⟩ = some v := by rw [cell_of_row _ _ _ _ _ _ hv]; rfl
  simp [results, hp', hq', asAddr, loadVar, go_sem, cu, cv]

theorem ownsRow_mono {B B' : Nat} {e : TypeId} {k : Nat} {v : Value} {n : Nat} {xs : List Value} {w : World} (h : w.ownsRow (B + B') e k v n xs) : w.ownsRow B e k v n xs :=
  ⟨h.1, h.2.imp id (fun ⟨g, c, cur, e1, e2, e3, e4⟩ => ⟨g, c, cur, e1, by omega, e3, e4⟩)⟩

/-- THE ARM: one frame is appended -/
theorem sapp {F : Fence} {n : Nat} {w W2 : World} {ops : Array Oper} {rest : List Oper} {o : Oper} {a : Act} {Q : Exit → Act → World → Prop} {k cap : Nat} {oa : Option Addr} {xs : List Value} {good : Int}
    (h1 : W2.heap[w.heap.size]? = some (.cells #[.slice oa k cap] 44)) (h2 : W2.ownsRow (w.heap.size + 5) 60 3 (.slice oa k cap) k xs) (h3 : W2.heap[w.heap.size + 1]? = some (.cells #[.int .i64 good] 3)) (h4 : Below w.heap.size w W2)
    (hsz : w.heap.size + 5 ≤ W2.heap.size) (hk : k ≤ 1000001) (hgd : o.guard = none) (s x : Operand) (ho : o.op = .call { callee := .builtin .append, args := #[s, x], argTypes := #[44, 44] })
    (hs : a.eval s = .slice oa k cap) (hx : a.eval x = .slice (some ⟨W2.heap.size, 0, none⟩) 1 1) (q : Nat) (y : ByteArray) (z : Int)
    (hK : ∀ g' cap' w1, w1.ownsRow (w.heap.size + 5) 60 3 (.slice (some ⟨g', 0, none⟩) (k + 1) cap') (k + 1) (xs ++ (frCells q y z).toList) → w1.heap[w.heap.size]? = some (.cells #[.slice oa k cap] 44) →
      w1.heap[w.heap.size + 1]? = some (.cells #[.int .i64 good] 3) → KeepsOthers W2 w1 → (∀ i, i < w.heap.size + 5 → w1.heap[i]? = W2.heap[i]?) → Below w.heap.size w w1 →
      w1.cell? ⟨w.heap.size, 0, none⟩ = some (.slice oa k cap) → w1.frozen? ⟨w.heap.size, 0, none⟩ = false → w1.cell? ⟨w.heap.size + 1, 0, none⟩ = some (.int .i64 good) → w1.frozen? ⟨w.heap.size + 1, 0, none⟩ = false →
      wpListIn F n Tryz.prog ops Q rest (a.put o.dst (.slice (some ⟨g', 0, none⟩) (k + 1) cap')) w1) :
    wpListIn F n Tryz.prog ops Q (o :: rest) a (W2.alloc (.cells #[.int .i64 q, .string y, .int .i64 z] 60)) := by
  obtain ⟨i0, hi, hz0, hz1, hz2⟩ := info_parts infoF
  refine wpListIn_append_own _ hgd s x 44 ho (w.heap.size + 5) 60 i0 _ 3 32 Tryz.underlying44 hi hz0 hz1 hz2 rfl (by decide) (.slice oa k cap) k xs hs (h2.alloc _) ⟨W2.heap.size, 0, none⟩ 1 1 (frCells q y z).toList hx rfl
    (cell_three_new _ _ _ _) (by simp [frCells, Value.oneCell']) (by unfold maxLen; omega) (by omega) (by simp; omega) ?_
  intro v' w1 hown hg _
  obtain ⟨g', cap', rfl, r1, r3, hko, hlow, hbel⟩ := sc_arm h1 h2 h3 h4 hsz hown hg
  refine hK g' cap' w1 hown r1 r3 hko hlow hbel ?_ (frozen_of_row _ _ _ _ _ r1) ?_ (frozen_of_row _ _ _ _ _ r3)
  · rw [cell_of_row _ _ _ _ _ _ r1]; rfl
  · rw [cell_of_row _ _ _ _ _ _ r3]; rfl

set_option maxHeartbeats 2000000 in
theorem scan_ok (s : ByteArray) (a : Nat) (f : Int) (w : World) (hs : s.size ≤ 1000000) (ha : a ≤ s.size) :
    CallsIn Fence.wide 3 Tryz.prog 58 #[.string s, .int .i64 a, .int .i64 f] w
      fun e w' => ∃ v xs, xs = scanP s.data.toList (s.size + 1) a f ∧ e = .returned (.tuple #[v, .int .i64 (goodP s.data.toList a xs)]) ∧ w'.ownsRow w.heap.size 60 3 v xs.length (frRow s xs) ∧ Below w.heap.size w w' := by
  have d1 : decide ((a : Int) < 0) = false := decide_eq_false (by omega)
  have d2 : decide (s.size < a) = false := decide_eq_false (by omega)
  refine callsIn_of_wp_marks Tryz.func58 rfl trivial ?_
  simp only [Tryz.ntmps58, List.size_toArray, List.length_cons, List.length_nil, Nat.reduceAdd, Nat.reduceSub, Array.replicate_succ, Array.replicate_zero, List.push_toArray, List.append_toArray, List.nil_append, List.cons_append]
  gi_wp2
  refine ⟨trivial, (callsIn_wide.2 (frames_any s a f _)).mono ?_⟩
  rintro e w' ⟨rfl, rfl⟩
  simp only [World.size_alloc]
  obtain ⟨W0, eW⟩ : ∃ W0, ((((w.alloc (.cells #[.slice none 0 0] 44)).alloc (.cells #[.int .i64 a] 3)).alloc (.cells #[.string s] 9)).alloc (.cells #[.int .i64 a] 3)).alloc (.cells #[.int .i64 f] 2) = W0 := ⟨_, rfl⟩
  have hz0 : W0.heap.size = w.heap.size + 5 := by rw [← eW]; simp
  obtain ⟨hr0, hr1, hr2, hr3, hr4⟩ := rows5 w (.cells #[.slice none 0 0] 44) (.cells #[.int .i64 a] 3) (.cells #[.string s] 9) (.cells #[.int .i64 a] 3) (.cells #[.int .i64 f] 2)
  rw [eW] at hr0 hr1 hr2 hr3 hr4
  have hb0 : Below w.heap.size w W0 := by rw [← eW]; exact (((((Below.refl _ _).alloc (Nat.le_refl _) _).alloc (by simp) _).alloc (by simp; omega) _).alloc (by simp; omega) _).alloc (by simp; omega) _
  rw [eW]
  clear eW
  gi_wp2
  refine wp_rangeFunc_keep (n := 2) (m := 1) (gf := 107) (lb := #[.pointer (some ⟨w.heap.size + 2, 0, none⟩), .pointer (some ⟨w.heap.size + 2 + 1, 0, none⟩), .pointer (some ⟨w.heap.size + 2 + 2, 0, none⟩)]) rfl (enters_of Tryz.func107 (by kernel_rfl) rfl)
    (encF s) (fun _ => rfl) (fun k => k = w.heap.size + 2 + 1 ∨ k = w.heap.size + 2 + 2) (fun k => k = w.heap.size + 2 ∨ k = w.heap.size + 2 + 1 ∨ k = w.heap.size + 2 + 2) (fun k h => by omega) (fun k h => by omega)
    (scI s a w) (fun xs => xs = scanP s.data.toList (s.size + 1) a f) (fun pre _ => pre.length ≤ s.size)
    (fun _ _ _ hi _ hk => scI_keep hi hk) (fun _ _ _ _ hi hl _ ho => scI_put hi (by omega) ho) ?start ?seq ?round ?done
  case start =>
    intro W hW
    refine ⟨none, 0, (hW.block _ (by omega)).trans hr0, World.ownsRow_nil _ _ _ _, (hW.block _ (by omega)).trans hr1, hb0.trans (hW.mono (by omega))⟩
  case seq =>
    intro l J W hW hJ hY hJ0
    exact frames1_in 2 s a f hs ha l (w.heap.size + 2) J hJ hY W ((hW.block _ (by omega)).trans hr2) ((hW.block _ (by omega)).trans hr3) ((hW.block _ (by omega)).trans hr4) hJ0
  case done =>
    rintro D xs W hS ⟨oa, cap, h1, h2, h3, h4⟩ hD hd
    have c1 : W.cell? ⟨w.heap.size, 0, none⟩ = some (.slice oa xs.length cap) := by rw [cell_of_row _ _ _ _ _ _ h1]; rfl
    have c3 : W.cell? ⟨w.heap.size + 1, 0, none⟩ = some (.int .i64 (goodP s.data.toList a xs)) := by rw [cell_of_row _ _ _ _ _ _ h3]; rfl
    have f1 : W.frozen? ⟨w.heap.size, 0, none⟩ = false := frozen_of_row _ _ _ _ _ h1
    have f3 : W.frozen? ⟨w.heap.size + 1, 0, none⟩ = false := frozen_of_row _ _ _ _ _ h3
    gi_wp2
    refine wpIn_wide.2 ?_
    go_region
    all_goals gi_wp2
    subst hS
    obtain ⟨xs, hxs⟩ : ∃ xs, scanP s.data.toList (s.size + 1) a f = xs := ⟨_, rfl⟩
    rw [hxs] at h1 h2 h3 ⊢
    have n1 := heap_setCell_same W w.heap.size 0 _ _ (.slice oa xs.length cap) h1
    have n3 : (W.setCell ⟨w.heap.size, 0, none⟩ (.slice oa xs.length cap)).heap[w.heap.size + 1]? = _ := (heap_setCell_ne _ _ _ (by show w.heap.size + 1 ≠ w.heap.size; omega)).trans h3
    have n3' := heap_setCell_same _ (w.heap.size + 1) 0 _ _ (.int .i64 (goodP s.data.toList a xs)) n3
    have n1' : ((W.setCell ⟨w.heap.size, 0, none⟩ (.slice oa xs.length cap)).setCell ⟨w.heap.size + 1, 0, none⟩ (.int .i64 (goodP s.data.toList a xs))).heap[w.heap.size]? = some (.cells #[.slice oa xs.length cap] 44) :=
      (heap_setCell_ne _ _ _ (by show w.heap.size ≠ w.heap.size + 1; omega)).trans n1
    have hown := ownsRow_setCell_below (ownsRow_setCell_below h2 (a := ⟨w.heap.size, 0, none⟩) (by show w.heap.size < w.heap.size + 5; omega) (.slice oa xs.length cap)) (a := ⟨w.heap.size + 1, 0, none⟩) (by show w.heap.size + 1 < w.heap.size + 5; omega) (.int .i64 (goodP s.data.toList a xs))
    have hbel := (h4.setCell (p := ⟨w.heap.size, 0, none⟩) (Nat.le_refl _) (.slice oa xs.length cap)).setCell (p := ⟨w.heap.size + 1, 0, none⟩) (by show w.heap.size ≤ w.heap.size + 1; omega) (.int .i64 (goodP s.data.toList a xs))
    have hdd : ((W.setCell ⟨w.heap.size, 0, none⟩ (.slice oa xs.length cap)).setCell ⟨w.heap.size + 1, 0, none⟩ (.int .i64 (goodP s.data.toList a xs))).heap[D]? = some (.deferred (some [])) :=
      (heap_setCell_ne _ _ _ (by show D ≠ w.heap.size + 1; omega)).trans ((heap_setCell_ne _ _ _ (by show D ≠ w.heap.size; omega)).trans hd)
    have hbD := hbel.drew
    generalize hWe : ((W.setCell ⟨w.heap.size, 0, none⟩ (.slice oa xs.length cap)).setCell ⟨w.heap.size + 1, 0, none⟩ (.int .i64 (goodP s.data.toList a xs))) = W5 at *
    refine ⟨by simp, .inl ⟨_, _, rfl, run_takeDeferred (w := W5.drew) hdd, ?_⟩⟩
    refine ⟨.tuple #[.slice oa xs.length cap, .int .i64 (goodP s.data.toList a xs)], results_scan _ _ w.heap.size _ _ rfl rfl ((World.putObj_heap_other (by omega)).trans n1') ((World.putObj_heap_other (by omega)).trans n3'), ?_⟩
    refine ⟨_, xs, rfl, rfl, ?_, ?_⟩
    · exact ownsRow_mono (ownsRow_keep hown (fun g o2 hg ho3 ho4 => (World.putObj_heap_other (fun e => by subst e; have hdd' := hdd; rw [ho3] at hdd'; cases hdd'; cases ho4)).trans ho3))
    · have hg := grownBy_putObj' W5.drew D (.deferred none)
      exact hbD.grown hg hbD.size (fun k e => by cases e; omega)
  case round =>
    rintro l pre x W hI hv hl hlt K hK
    simp only [encF, frAt, frV, frCells]
    gi_wp2
    refine hK _ _ (KeepsOthers.alloc _ _) ?_
    clear hK
    intro o
    obtain ⟨q, eq⟩ : ∃ q, fQ s.data.toList x = q := ⟨_, rfl⟩
    obtain ⟨y, ey⟩ : ∃ y, bs (sl s.data.toList (x + 16) (fN s.data.toList x)) = y := ⟨_, rfl⟩
    obtain ⟨m, em⟩ : ∃ m, fNext s.data.toList x = m := ⟨_, rfl⟩
    rw [eq, ey, em]
    obtain ⟨W2, eW2⟩ : ∃ W2, (W.alloc (.cells #[.int .i64 q, .string y, .int .i64 x] 60)).putObj l o = W2 := ⟨_, rfl⟩
    obtain ⟨o', ho1, ho2⟩ := hlt
    have hll := (Array.getElem?_eq_some_iff.1 ho1).1
    have hI2 : scI s a w pre W2 := by
      rw [← eW2]
      exact scI_put (scI_keep hI (KeepX.of_below ((Below.refl _ _).alloc (Nat.le_refl _) _))) (by omega) ⟨o', (heap_alloc_old _ _ _ hll).trans ho1, ho2⟩
    have hfr : W2.heap[W.heap.size]? = some (.cells (frCells q y x) 60) := by
      rw [← eW2]; exact (World.putObj_heap_other (by omega)).trans (heap_alloc_new _ _)
    have hzk : ∀ k, k < w.heap.size + 5 → W2.heap[k]? = W.heap[k]? := by
      intro k hk
      rw [← eW2]; exact (World.putObj_heap_other (by omega)).trans (heap_alloc_old _ _ _ (by omega))
    have hs2 : W2.heap.size = W.heap.size + 1 := by rw [← eW2]; simp
    rw [eW2]
    clear eW2 hI ho1 ho2
    obtain ⟨oa, cap, h1, h2, h3, h4⟩ := hI2
    have c1 : W2.cell? ⟨w.heap.size, 0, none⟩ = some (.slice oa pre.length cap) := by rw [cell_of_row _ _ _ _ _ _ h1]; rfl
    obtain ⟨k0, k1, k2, _, _, _⟩ := fr_cells hfr
    have H1 := Lib.hid h1
    have H2 := Lib.hid h2
    have H3 := Lib.hid h3
    have H4 := Lib.hid h4
    have HZ := Lib.hid hzk
    have HF := Lib.hid hfr
    have HS2 := Lib.hid hs2
    have hpl : pre.length + 1 ≤ 1000001 := by omega
    have HSZ := Lib.hid (show w.heap.size + 5 ≤ W2.heap.size by omega)
    clear h1 h2 h3 h4 hzk hfr hs2
    gi_wp2_with (gi_at_builtin; refine sapp H1.out H2.out H3.out H4.out HSZ.out (by omega) rfl _ _ rfl rfl rfl q y x ?_; intro g' cap' w1 hown r1 r3 hko hlow hbel c1' f1' c3' f3')
    have hlen : (pre ++ [x]).length = pre.length + 1 := by simp
    refine ⟨hko.trans ((KeepsOthers.setCell _ _ _).trans (KeepsOthers.setCell _ _ _)), ?_, ?_⟩
    · intro k hk
      exact (heap_setCell_ne _ _ _ (by show k ≠ w.heap.size + 1; omega)).trans ((heap_setCell_ne _ _ _ (by show k ≠ w.heap.size; omega)).trans ((hlow k (by omega)).trans (HZ.out k (by omega))))
    · have n1 := heap_setCell_same w1 w.heap.size 0 _ _ (.slice (some ⟨g', 0, none⟩) (pre.length + 1) cap') r1
      have n3 : (w1.setCell ⟨w.heap.size, 0, none⟩ (.slice (some ⟨g', 0, none⟩) (pre.length + 1) cap')).heap[w.heap.size + 1]? = _ := (heap_setCell_ne _ _ _ (by show w.heap.size + 1 ≠ w.heap.size; omega)).trans r3
      have n3' := heap_setCell_same _ (w.heap.size + 1) 0 _ _ (.int .i64 m) n3
      refine ⟨some ⟨g', 0, none⟩, cap', ?_, ?_, ?_, ?_⟩
      · rw [hlen]; exact (heap_setCell_ne _ _ _ (by show w.heap.size ≠ w.heap.size + 1; omega)).trans n1
      · rw [hlen, frRow_snoc, eq, ey]
        exact ownsRow_setCell_below (ownsRow_setCell_below hown (a := ⟨w.heap.size, 0, none⟩) (by show w.heap.size < w.heap.size + 5; omega) _) (a := ⟨w.heap.size + 1, 0, none⟩) (by show w.heap.size + 1 < w.heap.size + 5; omega) _
      · rw [goodP_snoc, em]; exact n3'
      · exact (hbel.setCell (p := ⟨w.heap.size, 0, none⟩) (Nat.le_refl _) _).setCell (p := ⟨w.heap.size + 1, 0, none⟩) (by show w.heap.size ≤ w.heap.size + 1; omega) _

set_option maxHeartbeats 2000000 in
theorem scan_out (s : ByteArray) (a : Int) (f : Int) (w : World) (h : a < 0 ∨ (s.size : Int) < a) :
    CallsIn Fence.wide 3 Tryz.prog 58 #[.string s, .int .i64 a, .int .i64 f] w
      fun e w' => e = .returned (.tuple #[.slice none 0 0, .int .i64 0]) ∧ Below w.heap.size w w' := by
  by_cases h1 : a < 0
  · have d1 : decide (a < 0) = true := decide_eq_true h1
    refine callsIn_of_wp_marks Tryz.func58 rfl trivial ?_
    simp only [Tryz.ntmps58, List.size_toArray, List.length_cons, List.length_nil, Nat.reduceAdd, Nat.reduceSub, Array.replicate_succ, Array.replicate_zero, List.push_toArray, List.append_toArray, List.nil_append, List.cons_append]
    gi_wp2
    exact ⟨.tuple #[.slice none 0 0, .int .i64 0], results_scan _ _ w.heap.size _ _ rfl rfl ((heap_alloc_old _ _ _ (by simp)).trans (heap_alloc_new _ _)) (heap_alloc2_new _ _ _), rfl, ((Below.refl _ _).alloc (Nat.le_refl _) _).alloc (by simp) _⟩
  · have d1 : decide (a < 0) = false := decide_eq_false h1
    have d2 : decide ((s.size : Int) < a) = true := decide_eq_true (by omega)
    refine callsIn_of_wp_marks Tryz.func58 rfl trivial ?_
    simp only [Tryz.ntmps58, List.size_toArray, List.length_cons, List.length_nil, Nat.reduceAdd, Nat.reduceSub, Array.replicate_succ, Array.replicate_zero, List.push_toArray, List.append_toArray, List.nil_append, List.cons_append]
    gi_wp2
    exact ⟨.tuple #[.slice none 0 0, .int .i64 0], results_scan _ _ w.heap.size _ _ rfl rfl ((heap_alloc_old _ _ _ (by simp)).trans (heap_alloc_new _ _)) (heap_alloc2_new _ _ _), rfl, ((Below.refl _ _).alloc (Nat.le_refl _) _).alloc (by simp) _⟩

/-- the places that are scanned; where the last one ends -/
def scanL (l : List UInt8) (a f : Int) : List Nat := if a < 0 ∨ (l.length : Int) < a then [] else scanP l (l.length + 1) a.toNat f
def scanG (l : List UInt8) (a f : Int) : Nat := if a < 0 ∨ (l.length : Int) < a then 0 else goodP l a.toNat (scanL l a f)
theorem scan_any (s : ByteArray) (a f : Int) (w : World) (hs : s.size ≤ 1000000) :
    Calls Tryz.prog 58 #[.string s, .int .i64 a, .int .i64 f] w
      fun e w' => ∃ v, e = .returned (.tuple #[v, .int .i64 (scanG s.data.toList a f)]) ∧ w'.ownsRow w.heap.size 60 3 v (scanL s.data.toList a f).length (frRow s (scanL s.data.toList a f)) ∧ Below w.heap.size w w' := by
  have hl : s.data.toList.length = s.size := rfl
  refine (callsIn_wide (n := 3)).1 ?_
  by_cases h : a < 0 ∨ (s.size : Int) < a
  · refine (scan_out s a f w h).mono ?_
    rintro e w' ⟨rfl, hb⟩
    unfold scanG scanL
    rw [hl, if_pos h, if_pos h]
    exact ⟨.slice none 0 0, rfl, World.ownsRow_nil _ _ _ _, hb⟩
  · obtain ⟨n, rfl⟩ : ∃ n : Nat, a = n := ⟨a.toNat, by omega⟩
    refine (scan_ok s n f w hs (by omega)).mono ?_
    rintro e w' ⟨v, xs, rfl, rfl, ho, hb⟩
    unfold scanG scanL
    rw [hl, if_neg h, if_neg h, Int.toNat_natCast]
    exact ⟨v, rfl, ho, hb⟩

end Go.Proofs.YtaonjbkkgeiniaaGreatDoor

