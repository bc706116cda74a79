/- frame.frames, its closure, frame.Scan. -/
import Derived.RangeFuncNested
import Derived.RangeFuncBound
import Derived.RangeFuncCalls
import Derived.RangeFuncLeaves
import Derived.Shelf.Abstract
import Derived.Shelf.RegionOpen
import Derived.WalkKit
import Derived.OwnWalkIn
import Derived.TacticsInMore
import Derived.LoopNIn
import Derived.LoopIn
import Derived.BigRegion
import Derived.Test.YtkgcjelipllpdaaScopeIn
import Derived.Test.YtkgcjelipllpdaaRangeKeep
import Derived.Test.YtkgcjelipllpdaaFrameRead2
namespace Go.Proofs.Ytkgcjelipllpdaa
open Go.RowKit Go.Shelf
attribute [local go_sem] Oper.semAt_some

def fNext (l : List UInt8) (a : Nat) : Nat := a + 16 + fN l a
def fGood (l : List UInt8) (a : Nat) (first : Int) : Prop := fE l a = 0 ∧ (fQ l a : Int) = first
instance (l : List UInt8) (a : Nat) (first : Int) : Decidable (fGood l a first) := by unfold fGood; infer_instance
/-- the places of the frames that are scanned -/
def scanP (l : List UInt8) : Nat → Nat → Int → List Nat
  | 0, _, _ => []
  | k + 1, a, first => if fGood l a first then a :: scanP l k (fNext l a) (first + 1) else []
theorem fE_zero {l : List UInt8} {a : Nat} (h : fE l a = 0) : a + 16 ≤ l.length ∧ fOk l a ∧ fNext l a ≤ l.length ∧ fSum l a := by
  unfold fE at h
  unfold fNext
  by_cases h1 : l.length < a + 16
  · rw [if_pos h1] at h; cases h
  rw [if_neg h1] at h
  by_cases h2 : fOk l a
  · rw [if_neg (not_not_intro h2)] at h
    by_cases h3 : l.length < a + 16 + fN l a
    · rw [if_pos h3] at h; cases h
    rw [if_neg h3] at h
    by_cases h4 : fSum l a
    · exact ⟨by omega, h2, by omega, h4⟩
    · rw [if_pos h4] at h; cases h
  · rw [if_pos h2] at h; cases h

/-- a frame as a value -/
def frAt (s : ByteArray) (a : Nat) : Value := frV (fQ s.data.toList a) (bs (sl s.data.toList (a + 16) (fN s.data.toList a))) a
theorem readV_good (s : ByteArray) (a : Nat) (ha : a ≤ s.size) (h : fE s.data.toList a = 0) : readV s a = .tuple #[frAt s a, .int .i64 ((fNext s.data.toList a : Nat) : Int), .int .i64 0] := by
  have hl : s.data.toList.length = s.size := rfl
  have e : rdE s.data.toList a = 0 := by unfold rdE; rw [if_neg (by omega), Int.toNat_natCast, h]
  unfold readV frAt fNext
  rw [if_pos e, Int.toNat_natCast]
theorem readV_bad (s : ByteArray) (a : Nat) (ha : a ≤ s.size) (h : fE s.data.toList a ≠ 0) : readV s a = .tuple #[frV 0 ⟨#[]⟩ 0, .int .i64 0, .int .i64 (fE s.data.toList a)] := by
  have hl : s.data.toList.length = s.size := rfl
  have e : rdE s.data.toList a = fE s.data.toList a := by unfold rdE; rw [if_neg (by omega), Int.toNat_natCast]
  unfold readV
  rw [e, if_neg h]

def encF (s : ByteArray) (a : Nat) : Array Value := #[.int .i64 ((fNext s.data.toList a : Nat) : Int), frAt s a]

theorem heap_setCell_ne (w : World) (p : Addr) (v : Value) {k : Nat} (h : k ≠ p.block) : (w.setCell p v).heap[k]? = w.heap[k]? := by
  show (w.heap.modify p.block _)[k]? = _
  rw [Array.getElem?_modify]
  simp [h.symm]
theorem KeepX.drew {E : Nat → Prop} {A B : World} (h : KeepX E A B) : KeepX E A B.drew := ⟨h.os, h.tape, h.output, h.size, h.block⟩

set_option maxHeartbeats 2000000 in
theorem frames1_in (n : Nat) (s : ByteArray) (a0 : Nat) (f0 : Int) (hs : s.size ≤ 1000000) (ha : a0 ≤ s.size) (l b : Nat) (J : List Nat → World → Prop)
    (hJ : ∀ pre W W', J pre W → KeepX (fun k => k = b + 1 ∨ k = b + 2) W W' → J pre W')
    (hY : ∀ pre x W1, pre.length ≤ s.size → J pre W1 → YieldAt Fence.wide (n - 1) Try.prog l (encF s x) W1 fun e W' => e = .returned (.bool true) ∧ J (pre ++ [x]) W' ∧ (∀ k, (k = b ∨ k = b + 1 ∨ k = b + 2) → W'.heap[k]? = W1.heap[k]?))
    (W : World) (h0 : W.heap[b]? = some (.cells #[.string s] 9)) (h1 : W.heap[b + 1]? = some (.cells #[.int .i64 a0] 3)) (h2 : W.heap[b + 2]? = some (.cells #[.int .i64 f0] 2)) (hJ0 : J [] W) :
    CallsIn Fence.wide n Try.prog 47 #[.func (.yield l) #[] #[], .pointer (some ⟨b, 0, none⟩), .pointer (some ⟨b + 1, 0, none⟩), .pointer (some ⟨b + 2, 0, none⟩)] W fun e W' => (∃ v, e = .returned v) ∧
      ∃ xs, xs = scanP s.data.toList (s.size + 1) a0 f0 ∧ J xs W' := by
  refine callsIn_of_wp Try.func47 rfl trivial ?_
  simp only [Try.ntmps47, List.size_toArray, List.length_cons, List.length_nil, Nat.reduceAdd, Nat.reduceSub, Array.replicate_succ, Array.replicate_zero, List.push_toArray, List.append_toArray, List.nil_append, List.cons_append]
  refine wpIn_scope_label 0 (fun a w => ∃ (pre : List Nat) (p k : Nat) (f : Int) (u4 u5 u6 u7 u8 u9 u10 u11 u12 u13 u14 u15 u16 u17 u18 u19 u20 u21 u22 u23 u24 u25 u26 u27 u28 u29 u30 u31 : Value),
    a = { tmps := #[.func (.yield l) #[] #[], .pointer (some ⟨b, 0, none⟩), .pointer (some ⟨b + 1, 0, none⟩), .pointer (some ⟨b + 2, 0, none⟩), u4, u5, u6, u7, u8, u9, u10, u11, u12, u13, u14, u15, u16, u17, u18, u19, u20, u21, u22, u23, u24, u25, u26, u27, u28, u29, u30, u31], defers := [] } ∧
    w.heap[b]? = some (.cells #[.string s] 9) ∧ w.heap[b + 1]? = some (.cells #[.int .i64 p] 3) ∧ w.heap[b + 2]? = some (.cells #[.int .i64 f] 2) ∧ J pre w ∧
    p ≤ s.size ∧ pre.length ≤ p ∧ s.size < p + k ∧ scanP s.data.toList (s.size + 1) a0 f0 = pre ++ scanP s.data.toList k p f)
    (fun _ w => s.size - (intOf ((w.cell? ⟨b + 1, 0, none⟩).getD undef)).toNat) ?start ?pass
  case start => exact ⟨[], a0, s.size + 1, f0, _, _, _, _, _, _, _, _, _, _, _, _, _, _, _, _, _, _, _, _, _, _, _, _, _, _, _, _, rfl, h0, h1, h2, hJ0, ha, Nat.zero_le _, by omega, rfl⟩
  case pass =>
    rintro a w ⟨pre, p, k, f, u4, u5, u6, u7, u8, u9, u10, u11, u12, u13, u14, u15, u16, u17, u18, u19, u20, u21, u22, u23, u24, u25, u26, u27, u28, u29, u30, u31, rfl, k0, k1, k2, hj, hp, hpl, hk, hsc⟩
    have c0 : w.cell? ⟨b, 0, none⟩ = some (.string s) := by rw [cell_of_row _ _ _ _ _ _ k0]; rfl
    have c1 : w.cell? ⟨b + 1, 0, none⟩ = some (.int .i64 p) := by rw [cell_of_row _ _ _ _ _ _ k1]; rfl
    have c2 : w.cell? ⟨b + 2, 0, none⟩ = some (.int .i64 f) := by rw [cell_of_row _ _ _ _ _ _ k2]; rfl
    have hb0 := (Array.getElem?_eq_some_iff.1 k0).1
    have hb1 := (Array.getElem?_eq_some_iff.1 k1).1
    have hb2 := (Array.getElem?_eq_some_iff.1 k2).1
    obtain ⟨k, rfl⟩ : ∃ j, k = j + 1 := ⟨k - 1, by omega⟩
    by_cases hg : fE s.data.toList p = 0
    · have hr := read_any s p w hs
      rw [readV_good s p hp hg] at hr
      obtain ⟨g1, g2, g3, g4⟩ := fE_zero hg
      have hlen : s.data.toList.length = s.size := rfl
      have hq : fQ s.data.toList p < 1048576 := g2.2
      unfold frAt frV frCells at hr
      have hn := Lib.hid (show encF s p = #[.int .i64 ((fNext s.data.toList p : Nat) : Int), .agg #[.int .i64 (fQ s.data.toList p), .string (bs (sl s.data.toList (p + 16) (fN s.data.toList p))), .int .i64 p]] from rfl)
      by_cases hf : (fQ s.data.toList p : Int) = f
      · have hsc2 : scanP s.data.toList (s.size + 1) a0 f0 = (pre ++ [p]) ++ scanP s.data.toList k (fNext s.data.toList p) (f + 1) := by
          rw [hsc, scanP, if_pos ⟨hg, hf⟩]; simp
        have hnx : p + 17 ≤ fNext s.data.toList p := by unfold fNext; have := g2.1.1; omega
        obtain ⟨y, ey⟩ : ∃ y, bs (sl s.data.toList (p + 16) (fN s.data.toList p)) = y := ⟨_, rfl⟩
        rw [ey] at hr hn
        obtain ⟨q, eq⟩ : ∃ q, fQ s.data.toList p = q := ⟨_, rfl⟩
        rw [eq] at hr hn hf hq
        obtain ⟨m, em⟩ : ∃ m, fNext s.data.toList p = m := ⟨_, rfl⟩
        rw [em] at hr hn hsc2 hnx g3
        subst hf
        have hw1 : IntKind.i64.wrap ((q : Int) + 1) = (q : Int) + 1 := IntWalk.i64_in _ (by omega)
        have C1 := Lib.hid c1
        have HR := Lib.hid hr
        have HS := Lib.hid hsc2
        clear hr hsc2 hsc g1 g2 g4
        gi_wp2
        refine ⟨trivial, (fun h => by cases h), ?_⟩
        refine (callsIn_wide.2 HR.out).mono ?_
        rintro e w1 ⟨rfl, hbw⟩
        have d2 : w1.cell? ⟨b + 2, 0, none⟩ = some (.int .i64 q) := by rw [cell_of_row _ _ _ _ _ _ ((hbw.block _ hb2).trans k2)]; rfl
        have hj1 : J pre (w1.alloc (.cells #[.int .i64 q, .string y, .int .i64 p] 24)) := hJ _ _ _ (hJ _ _ _ hj (KeepX.of_below hbw)) (KeepX.of_below ((Below.refl _ _).alloc (Nat.le_refl _) _))
        have r1 : w1.heap[b + 1]? = some (.cells #[.int .i64 p] 3) := (hbw.block _ hb1).trans k1
        have r2 : w1.heap[b + 2]? = some (.cells #[.int .i64 q] 2) := (hbw.block _ hb2).trans k2
        have r0 : w1.heap[b]? = some (.cells #[.string s] 9) := (hbw.block _ hb0).trans k0
        have r0' := (Below.heap_alloc w1 (.cells #[.int .i64 q, .string y, .int .i64 p] 24) b (Array.getElem?_eq_some_iff.1 r0).1).trans r0
        have r1' := (Below.heap_alloc w1 (.cells #[.int .i64 q, .string y, .int .i64 p] 24) (b + 1) (Array.getElem?_eq_some_iff.1 r1).1).trans r1
        have r2' := (Below.heap_alloc w1 (.cells #[.int .i64 q, .string y, .int .i64 p] 24) (b + 2) (Array.getElem?_eq_some_iff.1 r2).1).trans r2
        have d3 : (w1.alloc (.cells #[.int .i64 q, .string y, .int .i64 p] 24)).cell? ⟨b + 2, 0, none⟩ = some (.int .i64 q) := by rw [cell_of_row _ _ _ _ _ _ r2']; rfl
        obtain ⟨fn, tmps, assign, body, hy, hR⟩ := hY pre p _ (by omega) hj1
        rw [hn.out] at hy
        have R0 := Lib.hid r0'
        have R1 := Lib.hid r1'
        have R2 := Lib.hid r2'
        clear r0 r1 r2 r0' r1' r2' hj1
        gi_wp2
        refine ⟨(fun h => by cases h), hR.mono ?_⟩
        rintro e W3 ⟨rfl, hJ3, hz3⟩
        have k0' : W3.heap[b]? = _ := (hz3 b (.inl rfl)).trans R0.out
        have k1' : W3.heap[b + 1]? = _ := (hz3 (b + 1) (.inr (.inl rfl))).trans R1.out
        have k2' : W3.heap[b + 2]? = _ := (hz3 (b + 2) (.inr (.inr rfl))).trans R2.out
        have c1' : W3.cell? ⟨b + 1, 0, none⟩ = some (.int .i64 p) := by rw [cell_of_row _ _ _ _ _ _ k1']; rfl
        have c2' : W3.cell? ⟨b + 2, 0, none⟩ = some (.int .i64 q) := by rw [cell_of_row _ _ _ _ _ _ k2']; rfl
        have f1' : W3.frozen? ⟨b + 1, 0, none⟩ = false := frozen_of_row _ _ _ _ _ k1'
        have f2' : W3.frozen? ⟨b + 2, 0, none⟩ = false := frozen_of_row _ _ _ _ _ k2'
        clear R0 R1 R2 hR hy d3 d2 hz3 k0 k1 k2 c0 c1 c2 hbw HR hj
        gi_wp2
        refine wpIn_wide.2 ?_
        go_region
        all_goals gi_wp2
        refine wpIn_goto ?_
        have n1 := heap_setCell_same W3 (b + 1) 0 _ _ (.int .i64 m) k1'
        have n2 : (W3.setCell ⟨b + 1, 0, none⟩ (.int .i64 m)).heap[b + 2]? = _ := (heap_setCell_ne _ _ _ (by show b + 2 ≠ b + 1; omega)).trans k2'
        have n3 := heap_setCell_same _ (b + 2) 0 _ _ (.int .i64 ((q : Int) + 1)) n2
        have n1' : ((W3.setCell ⟨b + 1, 0, none⟩ (.int .i64 m)).setCell ⟨b + 2, 0, none⟩ (.int .i64 ((q : Int) + 1))).heap[b + 1]? = some (.cells #[.int .i64 m] 3) := (heap_setCell_ne _ _ _ (by show b + 1 ≠ b + 2; omega)).trans n1
        have n0 : ((W3.setCell ⟨b + 1, 0, none⟩ (.int .i64 m)).setCell ⟨b + 2, 0, none⟩ (.int .i64 ((q : Int) + 1))).heap[b]? = some (.cells #[.string s] 9) :=
          (heap_setCell_ne _ _ _ (by show b ≠ b + 2; omega)).trans ((heap_setCell_ne _ _ _ (by show b ≠ b + 1; omega)).trans k0')
        refine ⟨rfl, ⟨pre ++ [p], m, k, (q : Int) + 1, _, _, _, _, _, _, _, _, _, _, _, _, _, _, _, _, _, _, _, _, _, _, _, _, _, _, _, _, rfl, n0, n1', n3, ?_, ?_, ?_, ?_, HS.out⟩, ?_⟩
        · exact hJ _ _ _ hJ3 (((KeepX.refl _ W3).setCell (p := ⟨b + 1, 0, none⟩) (.inl rfl) _).setCell (p := ⟨b + 2, 0, none⟩) (.inr rfl) _).drew
        · omega
        · simp; omega
        · omega
        · have cn : (((W3.setCell ⟨b + 1, 0, none⟩ (.int .i64 m)).setCell ⟨b + 2, 0, none⟩ (.int .i64 ((q : Int) + 1))).drew).cell? ⟨b + 1, 0, none⟩ = some (.int .i64 m) := by
            rw [World.cell?_drew, cell_of_row _ _ _ _ _ _ n1']; rfl
          rw [cn, C1.out]
          simp [intOf]
          omega
      · have hx : scanP s.data.toList (k + 1) p f = [] := by rw [scanP, if_neg (fun h => hf h.2)]
        have d0 : ((fQ s.data.toList p : Int) == f) = false := by rw [beq_eq_false_iff_ne]; exact hf
        obtain ⟨y, ey⟩ : ∃ y, bs (sl s.data.toList (p + 16) (fN s.data.toList p)) = y := ⟨_, rfl⟩
        rw [ey] at hr
        obtain ⟨q, eq⟩ : ∃ q, fQ s.data.toList p = q := ⟨_, rfl⟩
        rw [eq] at hr d0
        obtain ⟨m, em⟩ : ∃ m, fNext s.data.toList p = m := ⟨_, rfl⟩
        rw [em] at hr
        have HR := Lib.hid hr
        clear hr
        gi_wp2
        refine ⟨trivial, (fun h => by cases h), ?_⟩
        refine (callsIn_wide.2 HR.out).mono ?_
        rintro e w1 ⟨rfl, hbw⟩
        have r2 : w1.heap[b + 2]? = some (.cells #[.int .i64 f] 2) := (hbw.block _ hb2).trans k2
        have r2' := (Below.heap_alloc w1 (.cells #[.int .i64 q, .string y, .int .i64 p] 24) (b + 2) (Array.getElem?_eq_some_iff.1 r2).1).trans r2
        have d3 : (w1.alloc (.cells #[.int .i64 q, .string y, .int .i64 p] 24)).cell? ⟨b + 2, 0, none⟩ = some (.int .i64 f) := by rw [cell_of_row _ _ _ _ _ _ r2']; rfl
        have hj1 : J pre (w1.alloc (.cells #[.int .i64 q, .string y, .int .i64 p] 24)) := hJ _ _ _ (hJ _ _ _ hj (KeepX.of_below hbw)) (KeepX.of_below ((Below.refl _ _).alloc (Nat.le_refl _) _))
        have HJ1 := Lib.hid hj1
        clear r2 r2' hj1
        gi_wp2
        refine ⟨fun _ h => (by cases h), ?_⟩
        gi_wp2
        simp only [Exit.jump]
        go_end0
        exact ⟨⟨_, rfl⟩, _, rfl, by rw [hsc, hx, List.append_nil]; exact HJ1.out⟩
    · have hx : scanP s.data.toList (k + 1) p f = [] := by rw [scanP, if_neg (fun h => hg h.1)]
      have hr := read_any s p w hs
      rw [readV_bad s p hp hg] at hr
      obtain ⟨e, ee⟩ : ∃ e, fE s.data.toList p = e := ⟨_, rfl⟩
      rw [ee] at hr hg
      have d0 : ((e : Int) == 0) = false := by rw [beq_eq_false_iff_ne]; omega
      unfold frV frCells at hr
      have HR := Lib.hid hr
      clear hr
      gi_wp2
      refine ⟨trivial, (fun h => by cases h), ?_⟩
      refine (callsIn_wide.2 HR.out).mono ?_
      rintro e w1 ⟨rfl, hbw⟩
      have HJ1 := Lib.hid (hJ _ _ _ (hJ _ _ _ hj (KeepX.of_below hbw)) (KeepX.of_below ((Below.refl _ _).alloc (Nat.le_refl _) (.cells #[.int .i64 0, .string ⟨#[]⟩, .int .i64 0] 24))))
      gi_wp2
      refine ⟨fun _ h => (by cases h), ?_⟩
      gi_wp2
      simp only [Exit.jump]
      go_end0
      exact ⟨⟨_, rfl⟩, _, rfl, by rw [hsc, hx, List.append_nil]; exact HJ1.out⟩
end Go.Proofs.Ytkgcjelipllpdaa
