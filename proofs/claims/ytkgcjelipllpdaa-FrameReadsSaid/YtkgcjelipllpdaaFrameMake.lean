/- Walks over package frame: length, Size, Make. -/
import Derived.Test.YtkgcjelipllpdaaWireV
import Derived.Test.YtkgcjelipllpdaaStr
import Derived.BigRegion
namespace Go.Proofs.Ytkgcjelipllpdaa
open Go.RowKit

/-- a frame's first twelve bytes; its bytes -/
def head (n seq : Nat) : List UInt8 := be4 n ++ be8 seq
def frm (seq : Nat) (l : List UInt8) : List UInt8 := head l.length seq ++ four (crc (head l.length seq ++ l)) ++ l
def lenOk (n : Int) : Prop := 1 ≤ n ∧ n ≤ 4096
instance (n : Int) : Decidable (lenOk n) := by unfold lenOk; infer_instance
/-- Make's error -/
def mkE (seq : Int) (s : ByteArray) : Nat := if seq < 0 ∨ 1048576 ≤ seq then 1 else if s.size = 0 then 4 else if 4096 < s.size then 40 else 0
def mkS (seq : Int) (s : ByteArray) : ByteArray := if mkE seq s = 0 then bs (frm seq.toNat s.data.toList) else ⟨#[]⟩

set_option maxHeartbeats 400000 in
theorem length_any (n : Int) (w : World) :
    Calls Try.prog 26 #[.int .i64 n] w
      fun e w' => e = .returned (.bool (decide (lenOk n))) ∧ w = w' := by
  by_cases h1 : 1 ≤ n
  · have d1 : decide (1 ≤ n) = true := by simp [h1]
    have e : decide (lenOk n) = decide (n ≤ 4096) := by simp [lenOk, h1]
    rw [e]
    go_enter Try.func26, Try.ntmps26
    go_wp2_with fail
    go_ret
    exact ⟨rfl, rfl⟩
  · have d1 : decide (1 ≤ n) = false := by simp [h1]
    have e : decide (lenOk n) = false := decide_eq_false (fun h => h1 h.1)
    rw [e]
    go_enter Try.func26, Try.ntmps26
    go_wp2_with fail
    go_ret
    exact ⟨rfl, rfl⟩

def szOf (n : Int) : Int := if lenOk n then 16 + n else 0

set_option maxHeartbeats 400000 in
theorem size_any (n : Int) (w : World) :
    Calls Try.prog 18 #[.int .i64 n] w
      fun e w' => e = .returned (.int .i64 (szOf n)) ∧ w = w' := by
  unfold szOf
  by_cases h1 : lenOk n
  · have d1 : decide (lenOk n) = true := decide_eq_true h1
    have hw : IntKind.i64.wrap (16 + n) = 16 + n := IntWalk.i64_in _ (by unfold lenOk at h1; omega)
    rw [if_pos h1]
    go_enter Try.func18, Try.ntmps18
    go_wp2_with fail
    refine (length_any n w).mono ?_
    rintro e w' ⟨rfl, rfl⟩
    go_wp2_with fail
    go_ret
    exact ⟨rfl, rfl⟩
  · have d1 : decide (lenOk n) = false := decide_eq_false h1
    rw [if_neg h1]
    go_enter Try.func18, Try.ntmps18
    go_wp2_with fail
    refine (length_any n w).mono ?_
    rintro e w' ⟨rfl, rfl⟩
    go_wp2_with fail
    go_ret
    exact ⟨rfl, rfl⟩

theorem wrt_new (w : World) : Wrt (w.alloc (.cells #[.slice none 0 0] 72)) w.heap.size [] := by
  refine ⟨none, 0, heap_alloc_new _ _, ?_⟩
  exact World.ownsRow_nil _ _ _ _

theorem Wrt.keep {w w' : World} {b B : Nat} {l : List UInt8} (h : Wrt w b l) (hb : Below B w w') (hB : w.heap.size ≤ B) : Wrt w' b l := by
  obtain ⟨oa, cap, h⟩ := h
  exact ⟨oa, cap, by rw [hb.block b (by have := h.lt; omega)]; exact h.1, h.2.1, h.2.2.imp id (fun ⟨g, c, cur, e1, e2, e3, e4⟩ => ⟨g, c, cur, e1, e2, by rw [hb.block g (by have := (Array.getElem?_eq_some_iff.1 e3).1; omega)]; exact e3, e4⟩)⟩

theorem length_be4 (n : Nat) : (be4 n).length = 4 := rfl
theorem length_be8 (n : Nat) : (be8 n).length = 8 := rfl

set_option maxHeartbeats 2000000 in
theorem make_any (seq : Int) (s : ByteArray) (w : World) (hs : s.size ≤ 1000000) :
    Calls Try.prog 15 #[.int .i64 seq, .string s] w
      fun e w' => e = .returned (.tuple #[.string (mkS seq s), .int .i64 (mkE seq s)]) ∧ Below w.heap.size w w' := by
  by_cases h1 : seq < 0
  · have d1 : decide (seq < 0) = true := by simp [h1]
    have e1 : mkE seq s = 1 := by simp [mkE, h1]
    have e2 : mkS seq s = ⟨#[]⟩ := by simp [mkS, e1]
    rw [e1, e2]
    go_enter Try.func15, Try.ntmps15
    go_wp2_with fail
    go_ret2
    exact ⟨rfl, Below.refl _ _⟩
  by_cases h2 : 1048576 ≤ seq
  · have d1 : decide (seq < 0) = false := by simp [h1]
    have d2 : decide (1048576 ≤ seq) = true := by simp [h2]
    have e1 : mkE seq s = 1 := by simp [mkE, h2]
    have e2 : mkS seq s = ⟨#[]⟩ := by simp [mkS, e1]
    rw [e1, e2]
    go_enter Try.func15, Try.ntmps15
    go_wp2_with fail
    go_ret2
    exact ⟨rfl, Below.refl _ _⟩
  have d1 : decide (seq < 0) = false := by simp [h1]
  have d2 : decide (1048576 ≤ seq) = false := by simp [h2]
  by_cases h3 : s.size = 0
  · obtain rfl : s = ⟨#[]⟩ := by
      apply ByteArray.ext
      exact Array.eq_empty_of_size_eq_zero h3
    have e1 : mkE seq ⟨#[]⟩ = 4 := by simp [mkE, h1, h2, h3]
    have e2 : mkS seq ⟨#[]⟩ = ⟨#[]⟩ := by simp [mkS, e1]
    rw [e1, e2]
    go_enter Try.func15, Try.ntmps15
    go_wp2_with fail
    go_ret2
    exact ⟨rfl, Below.refl _ _⟩
  have hne : s ≠ ⟨#[]⟩ := by rintro rfl; exact h3 rfl
  have d3 : s.toList.isEmpty = false := by
    rw [Bool.eq_false_iff]; intro h; exact hne (ByteArray.ext (by rw [ByteArray.toList_eq] at h; exact Array.ext' (List.isEmpty_iff.1 h)))
  by_cases h4 : 4096 < s.size
  · have d4 : decide (lenOk (s.size : Int)) = false := decide_eq_false (by unfold lenOk; omega)
    have e1 : mkE seq s = 40 := by simp [mkE, h1, h2, h3, h4]
    have e2 : mkS seq s = ⟨#[]⟩ := by simp [mkS, e1]
    rw [e1, e2]
    go_enter Try.func15, Try.ntmps15
    go_wp2_with (go_at_call 26; refine (length_any _ _).mono ?_; rintro e w' ⟨rfl, rfl⟩)
    go_ret2
    exact ⟨rfl, Below.refl _ _⟩
  have d4 : decide (lenOk (s.size : Int)) = true := decide_eq_true (by unfold lenOk; omega)
  have e1 : mkE seq s = 0 := by simp [mkE, h1, h2, h3, h4]
  have e2 : mkS seq s = bs (frm seq.toNat s.data.toList) := by simp [mkS, e1]
  rw [e1, e2]
  obtain ⟨n, rfl⟩ : ∃ n : Nat, seq = n := ⟨seq.toNat, by omega⟩
  rw [Int.toNat_natCast]
  have E0 := Lib.hid (show frm n s.data.toList = head s.size n ++ four (crc (head s.size n ++ s.data.toList)) ++ s.data.toList from rfl)
  have C1 : ((s.size : Int) % 4294967296) = s.size := by omega
  have C2 : ((n : Int) % 18446744073709551616) = n := by omega
  go_enter Try.func15, Try.ntmps15
  go_wp2_with (go_at_call 26; refine (length_any _ _).mono ?_; rintro e w' ⟨rfl, rfl⟩)
  rcases (wrt_new w) with hw0
  go_wp2_with fail
  obtain ⟨w0, ew0⟩ : ∃ x, w.alloc (.cells #[.slice none 0 0] 72) = x := ⟨_, rfl⟩
  have hb0 : Below w.heap.size w w0 := by rw [← ew0]; exact (Below.refl _ _).alloc (Nat.le_refl _) _
  rw [ew0] at hw0 ⊢
  clear ew0
  obtain ⟨b, hb⟩ : ∃ x, w.heap.size = x := ⟨_, rfl⟩
  rw [hb] at hw0 hb0 ⊢
  refine (wU32 b [] s.size w0 (by omega) (by simp) hw0).mono ?_
  rintro e w1 ⟨rfl, hw1, hb1⟩
  have B1 := Lib.hid (hb0.trans hb1)
  clear hw0 hb0 hb1
  go_wp2_with fail
  refine (wU64 b _ n w1 (by omega) (by simp [length_be4]) hw1).mono ?_
  rintro e w2 ⟨rfl, hw2, hb2⟩
  have B2 := Lib.hid (B1.out.trans hb2)
  clear hw1 hb2 B1
  rw [List.nil_append] at hw2
  rw [show be4 s.size ++ be8 n = head s.size n from rfl] at hw2
  have HL := Lib.hid (show (head s.size n).length = 12 from rfl)
  obtain ⟨hd, ehd⟩ : ∃ x, head s.size n = x := ⟨_, rfl⟩
  rw [ehd] at hw2 HL E0
  clear ehd
  have hsz : (bs hd ++ s).size ≤ 1000000000 := by rw [ByteArray.size_append, size_bs, HL.out]; omega
  have hof := fun w => of_str (bs hd ++ s) w hsz
  rw [show (bs hd ++ s).data.toList = hd ++ s.data.toList from by rw [data_app]; rfl] at hof
  have HO := Lib.hid hof
  clear hof hsz
  go_wp2_with fail
  refine (wBytes b hd w2 hw2).mono ?_
  rintro e w' ⟨rfl, rfl⟩
  have ehs := bs_data hd
  generalize bs hd = sh at *
  have hss : sh.size = 12 := by rw [← len_data, ehs]; exact HL.out
  have hcat : ¬ 9223372036854775807 < sh.size + s.size := by omega
  clear e1 e2 d1 d2 d3 h1 h2 h3 h4 hne C1 C2 d4 ehs
  go_wp2_with fail
  with_reducible refine (HO.out w2).mono ?_
  rintro e w3 ⟨rfl, hb3⟩
  have B3 := Lib.hid (B2.out.trans (hb3.mono (by have := hw2; obtain ⟨oa, cap, h⟩ := hw2; have := h.lt; omega)))
  go_wp2_with fail
  refine (wLow b hd _ w3 (by rw [HL.out]; omega) (hw2.keep hb3 (Nat.le_refl _))).mono ?_
  rintro e w4 ⟨rfl, hw4, hb4⟩
  have B4 := Lib.hid (B3.out.trans hb4)
  have HL2 := Lib.hid (show (hd ++ four (crc (hd ++ s.data.toList))).length = 16 by rw [List.length_append, HL.out, length_four])
  obtain ⟨hd2, ehd2⟩ : ∃ x, hd ++ four (crc (hd ++ s.data.toList)) = x := ⟨_, rfl⟩
  rw [ehd2] at hw4 HL2 E0
  clear HO HL hcat hss hw2 hb3 hb4 B3 B2 ehd2
  go_wp2_with fail
  refine (wRaw b hd2 s w4 (by rw [HL2.out]; omega) hw4).mono ?_
  rintro e w5 ⟨rfl, hw5, hb5⟩
  have B5 := Lib.hid (B4.out.trans hb5)
  clear B4 hb5 hw4
  go_wp2_with fail
  refine (wBytes b _ w5 hw5).mono ?_
  rintro e w' ⟨rfl, rfl⟩
  go_wp2_with fail
  go_ret2
  rw [E0.out]
  subst hb
  exact ⟨rfl, B5.out⟩

end Go.Proofs.Ytkgcjelipllpdaa
