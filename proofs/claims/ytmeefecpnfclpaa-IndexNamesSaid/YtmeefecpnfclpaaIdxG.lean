/- Walks over package index: the iterator of read. -/
import Derived.Test.YtmeefecpnfclpaaIdxD
import Derived.RangeFuncFrom
import Derived.RangeFuncNested
import Derived.RangeFuncBound
import Derived.RangeFuncCalls
import Derived.RangeFuncLeaves
import Derived.Shelf.Abstract
import Derived.Shelf.RegionOpen
import Derived.OwnWalkIn
import Derived.TacticsInMore
import Derived.LoopNIn
import Derived.LoopIn
namespace Go.Proofs.Ytmeefecpnfclpaa
open Go.RowKit Go.Shelf
attribute [local go_sem] Oper.semAt_some

/-- what read tells, one by one: the payload, the error -/
def encR (x : ByteArray × Int) : Array Value := #[.string x.1, .int .i64 x.2]
def payB (l : List UInt8) (a : Nat) : ByteArray := bs (sl l (a + 16) (fN l a))
def rdSeq (l : List UInt8) : Nat → Nat → Nat → List (ByteArray × Int)
  | 0, _, _ => []
  | k + 1, a, q => if fE l (min a l.length) ≠ 0 then [(⟨#[]⟩, (fE l (min a l.length) : Int))] else if fQ l (min a l.length) ≠ q then [(payB l (min a l.length), 4)] else (payB l (min a l.length), 0) :: rdSeq l k (fNext l (min a l.length)) (q + 1)

theorem rdSeq_succ (l : List UInt8) (k a q : Nat) : rdSeq l (k + 1) a q = if fE l (min a l.length) ≠ 0 then [(⟨#[]⟩, (fE l (min a l.length) : Int))] else if fQ l (min a l.length) ≠ q then [(payB l (min a l.length), 4)] else (payB l (min a l.length), 0) :: rdSeq l k (fNext l (min a l.length)) (q + 1) := rfl
theorem grown_of_below {W W' : World} (h : Below W.heap.size W W') : W.grownBy W' none := ⟨h.os, h.tape, h.output, h.size, fun k hk _ => h.block k hk⟩
theorem abides_below {β : Type} {B : Nat} {J : β → World → Prop} (h : AbidesFrom B J) {s : β} {W W' : World} (hj : J s W) (hb : Below W.heap.size W W') : J s W' := h s W W' none hj (grown_of_below hb) (fun r e => by cases e)

set_option maxRecDepth 100000 in
set_option maxHeartbeats 2000000 in
theorem read1_in (n : Nat) (s : ByteArray) (a0 q0 : Nat) (hs : s.size ≤ 1000000) (ha : a0 ≤ 1000000000) (hq0 : q0 ≤ 1000000000) (l bm bS B : Nat) (J Jx : List (ByteArray × Int) → World → Prop)
    (hJ : AbidesFrom B J) 
    (hY : ∀ pre x W1, J pre W1 → pre.length < s.size + 3 → YieldAt Fence.wide (n - 1) Try.prog l (encR x) W1 fun e W' => (e = .returned (.bool true) ∧ J (pre ++ [x]) W' ∧ W'.heap[bS]? = W1.heap[bS]?) ∨ (e = .returned (.bool false) ∧ Jx (pre ++ [x]) W'))
    (W : World) (hmc : W.heap[bm]? = some (.cells #[.int .i64 q0, .int .i64 a0] 44)) (hsc : W.heap[bS]? = some (.cells #[.string s] 9)) (hJ0 : J [] W) :
    CallsIn Fence.wide n Try.prog 66 #[.func (.yield l) #[] #[], .pointer (some ⟨bm, 0, none⟩), .pointer (some ⟨bS, 0, none⟩)] W fun e W' => (∃ v, e = .returned v) ∧
      ((∃ xs, xs = rdSeq s.data.toList (s.size + 2) a0 q0 ∧ J xs W') ∨ (∃ pre, pre <+: rdSeq s.data.toList (s.size + 2) a0 q0 ∧ Jx pre W')) := by
  obtain ⟨m0, m1, _, _⟩ := mk_cells hmc
  have HJ := Lib.hid hJ
  have HY := Lib.hid hY
  have HM := Lib.hid hmc
  have HS := Lib.hid hsc
  have HJ0 := Lib.hid (abides_below hJ hJ0 (bel_drew (Below.refl W.heap.size W)))
  clear hJ hY hJ0 hmc hsc
  refine callsIn_of_wp Try.func66 rfl trivial ?_
  simp only [Try.ntmps66, List.size_toArray, List.length_cons, List.length_nil, Nat.reduceAdd, Nat.reduceSub, Array.replicate_succ, Array.replicate_zero, List.push_toArray, List.append_toArray, List.nil_append, List.cons_append]
  gi_wp2
  refine wpIn_wide.2 ?_
  go_region
  all_goals gi_wp2
  gi_loopw [4, 5] (fun qv av wr => ∃ (pre : List (ByteArray × Int)) (q a k : Nat), qv = .int .i64 q ∧ av = .int .i64 a ∧ wr.heap[bS]? = some (.cells #[.string s] 9) ∧ J pre wr ∧ q ≤ 1000000000 ∧ a ≤ 1000000000 ∧ pre.length + k = s.size + 2 ∧ s.size < a + k ∧ (a ≤ s.size ∨ pre = []) ∧
      rdSeq s.data.toList (s.size + 2) a0 q0 = pre ++ rdSeq s.data.toList k a q) (fun _ av _ => s.size + 1 - (intOf av).toNat)
  case atStart => exact ⟨[], q0, a0, s.size + 2, rfl, rfl, HS.out, HJ0.out, hq0, ha, by simp, by omega, .inr rfl, rfl⟩
  case round =>
    obtain ⟨pre, q, a, k, rfl, rfl, hbl, hj, hq, ha2, hk, hka, hpa, hseq⟩ := hrel
    have hl : s.data.toList.length = s.size := rfl
    have hks := hbl
    have cs : wr.cell? ⟨bS, 0, none⟩ = some (.string s) := by rw [cell_of_row _ _ _ _ _ _ hks]; rfl
    have HKS := Lib.hid hks
    have hk0 : 1 ≤ k := by
      rcases hpa with h | h
      · omega
      · rw [h] at hk; simp at hk; omega
    obtain ⟨k, rfl⟩ : ∃ j, k = j + 1 := ⟨k - 1, by omega⟩
    clear hk0
    clear hbl hks
    by_cases hbig : s.size < a
    · have hm : min a s.data.toList.length = s.size := by rw [hl]; omega
      have hE : fE s.data.toList s.size = 8 := by unfold fE; rw [hl, if_pos (by omega)]
      have hx : rdSeq s.data.toList (k + 1) a q = [(⟨#[]⟩, 8)] := by rw [rdSeq_succ, hm, hE]; rfl
      have HQ := Lib.hid (show pre ++ [((⟨#[]⟩ : ByteArray), (8 : Int))] = rdSeq s.data.toList (s.size + 2) a0 q0 by rw [hseq, hx])
      have hr := read_any s s.size wr hs
      rw [readV_bad s s.size (Nat.le_refl _) (by rw [hE]; decide), hE] at hr
      unfold frV frCells at hr
      have HR := Lib.hid hr
      clear hr hx hE hm hseq hpa
      gi_wp2
      refine ⟨trivial, (fun h => by cases h), ?_⟩
      refine (callsIn_wide.2 HR.out).mono ?_
      rintro e' w1 ⟨rfl, hbw⟩
      have hj1 := abides_below HJ.out (abides_below HJ.out hj hbw) ((Below.refl _ _).alloc (Nat.le_refl _) (.cells #[.int .i64 0, .string ⟨#[]⟩, .int .i64 0] 40))
      obtain ⟨fn, tmps, assign, body, hy, hR⟩ := HY.out pre (⟨#[]⟩, 8) _ hj1 (by omega)
      simp only [encR] at hy
      clear hj1 hbw HR hj
      gi_wp2
      refine ⟨(fun h => by cases h), hR.mono ?_⟩
      rintro e' W3 (⟨rfl, hJ3, hk3⟩ | ⟨rfl, hJx3⟩)
      · have HJ3 := Lib.hid hJ3
        clear hR hy hJ3
        gi_wp2
        refine bodyPost_ret (results_none rfl _ _ _) rfl ?_
        exact ⟨⟨_, rfl⟩, .inl ⟨_, HQ.out, HJ3.out⟩⟩
      · have HJ3 := Lib.hid hJx3
        clear hR hy hJx3
        gi_wp2
        refine bodyPost_ret (results_none rfl _ _ _) rfl ?_
        exact ⟨⟨_, rfl⟩, .inr ⟨_, ⟨[], by rw [HQ.out]; simp⟩, HJ3.out⟩⟩
    have hm : min a s.data.toList.length = a := by rw [hl]; omega
    by_cases hg : fE s.data.toList a = 0
    · obtain ⟨g1, g2, g3, g4⟩ := fE_zero hg
      have hr := read_any s a wr hs
      rw [readV_good s a (by omega) hg] at hr
      unfold frAt frV frCells at hr
      have hqq : fQ s.data.toList a < 1048576 := g2.2
      have hnx : a + 17 ≤ fNext s.data.toList a := by unfold fNext; have := g2.1.1; omega
      obtain ⟨y, ey⟩ : ∃ y, bs (sl s.data.toList (a + 16) (fN s.data.toList a)) = y := ⟨_, rfl⟩
      have hpy : payB s.data.toList a = y := ey
      rw [ey] at hr
      obtain ⟨m, em⟩ : ∃ m, fNext s.data.toList a = m := ⟨_, rfl⟩
      rw [em] at hr g3 hnx
      obtain ⟨Q, eQ⟩ : ∃ Q, fQ s.data.toList a = Q := ⟨_, rfl⟩
      rw [eQ] at hr hqq
      by_cases hf : Q = q
      · subst hf
        have hx : rdSeq s.data.toList (k + 1) a Q = (y, 0) :: rdSeq s.data.toList k m (Q + 1) := by
          rw [rdSeq_succ, hm, if_neg (not_not_intro hg), if_neg (not_not_intro eQ), hpy, em]
        have HQ := Lib.hid (show rdSeq s.data.toList (s.size + 2) a0 q0 = (pre ++ [(y, 0)]) ++ rdSeq s.data.toList k m (Q + 1) by rw [hseq, hx]; simp)
        have HR := Lib.hid hr
        clear hr hx hm hseq hpa g1 g2 g4 ey hpy em eQ hg
        gi_wp2
        refine ⟨trivial, (fun h => by cases h), ?_⟩
        refine (callsIn_wide.2 HR.out).mono ?_
        rintro e' w1 ⟨rfl, hbw⟩
        have hj1 := abides_below HJ.out (abides_below HJ.out hj hbw) ((Below.refl _ _).alloc (Nat.le_refl _) (.cells #[.int .i64 Q, .string y, .int .i64 a] 40))
        obtain ⟨fn, tmps, assign, body, hy, hR⟩ := HY.out pre (y, 0) _ hj1 (by omega)
        simp only [encR] at hy
        have HBW := Lib.hid (((bel_alloc hbw (.cells #[.int .i64 Q, .string y, .int .i64 a] 40)).block bS (Array.getElem?_eq_some_iff.1 HKS.out).1).trans HKS.out)
        clear hj1 hbw HR hj
        gi_wp2
        refine ⟨(fun h => by cases h), hR.mono ?_⟩
        rintro e' W3 (⟨rfl, hJ3, hk3⟩ | ⟨rfl, hJx3⟩)
        · have HJ3 := Lib.hid hJ3
          have HK3 := Lib.hid hk3
          clear hR hy hJ3 hk3
          gi_wp2
          refine ⟨⟨pre ++ [(y, 0)], Q + 1, m, k, val_int (by omega), rfl, HK3.out.trans HBW.out, HJ3.out, by omega, by omega, by simp; omega, by omega, .inl (by omega), HQ.out⟩, ?_⟩
          simp [intOf]; omega
        · have HJ3 := Lib.hid hJx3
          clear hR hy hJx3
          gi_wp2
          refine bodyPost_ret (results_none rfl _ _ _) rfl ?_
          exact ⟨⟨_, rfl⟩, .inr ⟨_, ⟨_, HQ.out.symm⟩, HJ3.out⟩⟩
      · have d0 : ((Q : Int) == (q : Int)) = false := by rw [beq_eq_false_iff_ne]; omega
        have d1 : ((Q : Int) != (q : Int)) = true := by rw [bne_iff_ne]; omega
        have hx : rdSeq s.data.toList (k + 1) a q = [(y, 4)] := by
          rw [rdSeq_succ, hm, if_neg (not_not_intro hg), eQ, if_pos hf, hpy]
        have HQ := Lib.hid (show pre ++ [(y, 4)] = rdSeq s.data.toList (s.size + 2) a0 q0 by rw [hseq, hx])
        have HR := Lib.hid hr
        clear hr hx hm hseq hpa g1 g2 g4 ey hpy em eQ hg
        gi_wp2
        refine ⟨trivial, (fun h => by cases h), ?_⟩
        refine (callsIn_wide.2 HR.out).mono ?_
        rintro e' w1 ⟨rfl, hbw⟩
        have hj1 := abides_below HJ.out (abides_below HJ.out hj hbw) ((Below.refl _ _).alloc (Nat.le_refl _) (.cells #[.int .i64 Q, .string y, .int .i64 a] 40))
        obtain ⟨fn, tmps, assign, body, hy, hR⟩ := HY.out pre (y, 4) _ hj1 (by omega)
        simp only [encR] at hy
        clear hj1 hbw HR hj
        gi_wp2
        refine ⟨(fun h => by cases h), hR.mono ?_⟩
        rintro e' W3 (⟨rfl, hJ3, hk3⟩ | ⟨rfl, hJx3⟩)
        · have HJ3 := Lib.hid hJ3
          clear hR hy hJ3
          gi_wp2
          refine bodyPost_ret (results_none rfl _ _ _) rfl ?_
          exact ⟨⟨_, rfl⟩, .inl ⟨_, HQ.out, HJ3.out⟩⟩
        · have HJ3 := Lib.hid hJx3
          clear hR hy hJx3
          gi_wp2
          refine bodyPost_ret (results_none rfl _ _ _) rfl ?_
          exact ⟨⟨_, rfl⟩, .inr ⟨_, ⟨[], by rw [HQ.out]; simp⟩, HJ3.out⟩⟩
    · have hr := read_any s a wr hs
      rw [readV_bad s a (by omega) hg] at hr
      obtain ⟨E, eE⟩ : ∃ E, fE s.data.toList a = E := ⟨_, rfl⟩
      rw [eE] at hr hg
      have d0 : ((E : Int) == 0) = false := by rw [beq_eq_false_iff_ne]; omega
      have d1 : ((E : Int) != 0) = true := by rw [bne_iff_ne]; omega
      unfold frV frCells at hr
      have hx : rdSeq s.data.toList (k + 1) a q = [(⟨#[]⟩, (E : Int))] := by rw [rdSeq_succ, hm, eE, if_pos hg]
      have HQ := Lib.hid (show pre ++ [((⟨#[]⟩ : ByteArray), (E : Int))] = rdSeq s.data.toList (s.size + 2) a0 q0 by rw [hseq, hx])
      have HR := Lib.hid hr
      clear hr hx hm hseq hpa eE
      gi_wp2
      refine ⟨trivial, (fun h => by cases h), ?_⟩
      refine (callsIn_wide.2 HR.out).mono ?_
      rintro e' w1 ⟨rfl, hbw⟩
      have hj1 := abides_below HJ.out (abides_below HJ.out hj hbw) ((Below.refl _ _).alloc (Nat.le_refl _) (.cells #[.int .i64 0, .string ⟨#[]⟩, .int .i64 0] 40))
      obtain ⟨fn, tmps, assign, body, hy, hR⟩ := HY.out pre (⟨#[]⟩, (E : Int)) _ hj1 (by omega)
      simp only [encR] at hy
      clear hj1 hbw HR hj
      gi_wp2
      refine ⟨(fun h => by cases h), hR.mono ?_⟩
      rintro e' W3 (⟨rfl, hJ3, hk3⟩ | ⟨rfl, hJx3⟩)
      · have HJ3 := Lib.hid hJ3
        clear hR hy hJ3
        gi_wp2
        refine bodyPost_ret (results_none rfl _ _ _) rfl ?_
        exact ⟨⟨_, rfl⟩, .inl ⟨_, HQ.out, HJ3.out⟩⟩
      · have HJ3 := Lib.hid hJx3
        clear hR hy hJx3
        gi_wp2
        refine bodyPost_ret (results_none rfl _ _ _) rfl ?_
        exact ⟨⟨_, rfl⟩, .inr ⟨_, ⟨[], by rw [HQ.out]; simp⟩, HJ3.out⟩⟩

end Go.Proofs.Ytmeefecpnfclpaa
