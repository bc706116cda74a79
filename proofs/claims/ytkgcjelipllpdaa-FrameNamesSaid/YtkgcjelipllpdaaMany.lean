/- souklaw10: many. -/
import Derived.Test.YtkgcjelipllpdaaWorks
import Derived.Test.YtkgcjelipllpdaaByt
import Derived.Laws.MakeOwn
namespace Go.Proofs.Ytkgcjelipllpdaa
open Go.RowKit

def repL (n k : Nat) (c : UInt8) : List UInt8 := List.replicate k c ++ List.replicate (n - k) 0
theorem repL_len (n k : Nat) (c : UInt8) (h : k ≤ n) : (repL n k c).length = n := by unfold repL; simp; omega
theorem repL_set (n k : Nat) (c : UInt8) (h : k < n) : (repL n k c).set k c = repL n (k + 1) c := by
  unfold repL
  apply List.ext_getElem?
  intro j
  rw [List.getElem?_set]
  by_cases e : k = j
  · subst e
    have hl : k < (List.replicate k c ++ List.replicate (n - k) 0).length := by rw [List.length_append, List.length_replicate, List.length_replicate]; omega
    have hr : (List.replicate (k + 1) c ++ List.replicate (n - (k + 1)) 0)[k]? = some c := by
      rw [List.getElem?_append_left (by rw [List.length_replicate]; omega), List.getElem?_replicate, if_pos (Nat.lt_succ_self k)]
    rw [hr, if_pos rfl, if_pos hl]
  · rw [if_neg e]
    by_cases h1 : j < k
    · rw [List.getElem?_append_left (by simpa using h1), List.getElem?_append_left (by simp; omega), List.getElem?_replicate, List.getElem?_replicate, if_pos h1, if_pos (by omega)]
    · rw [List.getElem?_append_right (by simp; omega), List.getElem?_append_right (by simp; omega), List.getElem?_replicate, List.getElem?_replicate]
      simp only [List.length_replicate]
      by_cases h2 : j < n
      · rw [if_pos (by omega), if_pos (by omega)]
      · rw [if_neg (by omega), if_neg (by omega)]

set_option maxRecDepth 100000 in
set_option maxHeartbeats 400000 in
theorem many_any (n : Nat) (c : UInt8) (w : World) (hn : n ≤ 1000000) :
    Calls Try.prog 16 #[.int .i64 n, .int .u8 c.toNat] w fun e w' => e = .returned (.string (bs (List.replicate n c))) ∧ Below w.heap.size w w' := by
  obtain ⟨i0, hi, hz0, hz1, hz2⟩ := info_parts infoU8
  have hm := run_make (P := Try.prog) w 46 5 i0 (.int .u8 0) Try.underlying46 hi hz0 .i64 .i64 n n (by omega) (Int.le_refl _) (by rw [hz2]; omega) (by omega)
  rw [hz1, Int.toNat_natCast, Nat.mul_one] at hm
  have hb0 : bytesAt (w.alloc (.cells (madeCells (Value.int .u8 0).cells n) 5)) w.heap.size (repL n 0 c) := by
    refine ⟨_, 0, 0, heap_alloc_new _ _, Or.inr rfl, ?_⟩
    intro j hj
    rw [repL_len n 0 c (Nat.zero_le _)] at hj
    have e : nth (repL n 0 c) j = 0 := by unfold nth repL; simp [hj]
    rw [e]
    have hj1 : j % 1 = 0 := Nat.mod_one j
    simp [madeCells, hj, Value.cells, hj1]
  obtain ⟨W1, eW⟩ : ∃ W1, w.alloc (.cells (madeCells (Value.int .u8 0).cells n) 5) = W1 := ⟨_, rfl⟩
  have hbel : Below w.heap.size w W1 := by rw [← eW]; exact (Below.refl _ _).alloc (Nat.le_refl _) _
  rw [eW] at hm hb0
  have HB := Lib.hid hb0
  have HW := Lib.hid hbel
  clear hb0 hbel eW hi hz0 hz1 hz2
  go_enter Try.func16, Try.ntmps16
  go_wp2_with fail
  clear hm
  go_loopw [6] (fun i wr => ∃ k : Nat, k ≤ n ∧ i = .int .i64 k ∧ bytesAt wr w.heap.size (repL n k c) ∧ Below w.heap.size w wr) (fun i _ => n - (intOf i).toNat)
  case atStart => exact ⟨0, Nat.zero_le _, rfl, HB.out, HW.out⟩
  case round =>
    obtain ⟨k, hk, rfl, hby, hbw⟩ := hrel
    have hlen := repL_len n k c hk
    by_cases hlt : k < n
    · have hc := hby.cell k (by omega)
      have hf := hby.frozen k (by omega)
      have hst := hby.store k (by omega) c
      rw [repL_set n k c hlt] at hst
      have HST := Lib.hid hst
      have HBW := Lib.hid hbw
      clear hst hbw hby HB HW
      go_wp2_with fail
      go_roundw
      case rel => exact ⟨k + 1, by omega, by go_num, HST.out, HBW.out.setCell (p := ⟨w.heap.size, k, none⟩) (Nat.le_refl _) _⟩
      case measure => simp [intOf]; omega
    · obtain rfl : k = n := by omega
      have hcv := hby.conv k k (repL_len k k c (Nat.le_refl _))
      have he : repL k k c = List.replicate k c := by unfold repL; simp
      rw [he] at hcv
      have HBW := Lib.hid hbw
      clear hbw hby HB HW
      go_wp2_with fail
      go_ret
      exact ⟨rfl, HBW.out⟩

end Go.Proofs.Ytkgcjelipllpdaa
