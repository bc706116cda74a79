/- Walks over package crc: step, Table. -/
import Derived.Test.YtkgcjelipllpdaaProg
import Derived.Test.YtkgcjelipllpdaaCrcP
import Derived.Test.YtkgcjelipllpdaaVec
namespace Go.Proofs.Ytkgcjelipllpdaa
open Go.RowKit

set_option maxHeartbeats 400000 in
theorem step_any (c : BitVec 32) (w : World) :
    Calls Try.prog 55 #[.int .u32 c.toNat] w fun e w' => e = .returned (.int .u32 (step c).toNat) ∧ w = w' := by
  by_cases h : c.getLsbD 0 = true
  · have hb : (bits .and .u32 (c.toNat : Int) 1 == 1) = true := by rw [and1, h]; rfl
    go_enter Try.func55, Try.ntmps55
    go_wp2
    go_ret
    exact ⟨ret_int (by rw [xor_poly]; unfold step; rw [if_pos h]; rfl), rfl⟩
  · have h' : c.getLsbD 0 = false := by simpa using h
    have hb : (bits .and .u32 (c.toNat : Int) 1 == 1) = false := by rw [and1, h']; rfl
    go_enter Try.func55, Try.ntmps55
    go_wp2
    go_ret
    exact ⟨ret_int (by rw [shr1]; unfold step; rw [if_neg h]), rfl⟩

def zf (_ : Nat) : BitVec 32 := 0#32
def tk (k j : Nat) : BitVec 32 := if j < k then tab j else 0#32
theorem zero_tab (w : World) : (zeroValue 94).run Try.prog w = .ok (.agg (u32s 256 zf)) w := by kernel_rfl

theorem tab_size : (Try.prog.info? 94).map (·.size) = some 256 := by kernel_rfl
theorem tk_zero : tk 0 = zf := by funext j; simp [tk, zf]
theorem tk_succ (k : Nat) : fupd (tk k) k (tab k) = tk (k + 1) := by
  funext j; unfold fupd tk
  by_cases h : j = k
  · subst h; simp
  · rw [if_neg h]
    by_cases h2 : j < k
    · rw [if_pos h2, if_pos (by omega)]
    · rw [if_neg h2, if_neg (by omega)]
theorem start_row (k : Nat) (h : k < 256) : (u32s 256 (tk k)).setIfInBounds k (.int .u32 (k : Int)) = u32s 256 (fupd (tk k) k (up 0 (BitVec.ofNat 32 k))) := by
  rw [← set_u32s]
  congr 2
  show (k : Int) = ((BitVec.ofNat 32 k).toNat : Int)
  rw [BitVec.toNat_ofNat, Nat.mod_eq_of_lt (by omega)]
theorem up_succ (m : Nat) (c : BitVec 32) : up (m + 1) c = step (up m c) := by rw [up_add]; rfl

set_option maxRecDepth 100000 in
set_option maxHeartbeats 400000 in
theorem table_any (w : World) :
    Calls Try.prog 52 #[] w fun e w' => e = .returned (.agg (u32s 256 tab)) ∧ Below w.heap.size w w' := by
  have hz := zero_tab
  go_enter Try.func52, Try.ntmps52
  go_wp2_with fail
  clear hz
  go_loopw [3] (fun c wr => ∃ k : Nat, k ≤ 256 ∧ c = .int .i64 k ∧ wr = (w.alloc (.cells (u32s 256 zf) 94)).alloc (.cells (u32s 256 (tk k)) 94))
    (fun c _ => 256 - (intOf c).toNat)
  case atStart => exact ⟨0, by omega, rfl, by rw [tk_zero]⟩
  case round =>
    obtain ⟨k, hk, rfl, rfl⟩ := hrel
    by_cases hlt : k < 256
    · have hb : decide ((k : Int) < 256) = true := by simp; omega
      go_wp2_with fail
      rw [start_row k hlt]
      go_loopw [10] (fun c wr => ∃ m : Nat, m ≤ 8 ∧ c = .int .i64 m ∧ wr = (w.alloc (.cells (u32s 256 zf) 94)).alloc (.cells (u32s 256 (fupd (tk k) k (up m (BitVec.ofNat 32 k)))) 94))
        (fun c _ => 8 - (intOf c).toNat)
      case atStart => exact ⟨0, by omega, rfl, rfl⟩
      case round =>
        obtain ⟨m, hm, rfl, rfl⟩ := hrel
        have hf := fupd_same (tk k) k (up m (BitVec.ofNat 32 k))
        by_cases hm8 : m < 8
        · go_wp2_with (go_at_call 55; refine (step_any _ _).mono ?_; rintro e w' ⟨rfl, rfl⟩)
          go_roundw
          case rel => exact ⟨m + 1, by omega, by go_num, by rw [set_u32s, fupd_twice, up_succ]⟩
          case measure => simp [intOf]; omega
        · obtain rfl : m = 8 := by omega
          go_wp2_with fail
          go_roundw
          case rel => exact ⟨k + 1, by omega, by go_num, by rw [← tk_succ]; rfl⟩
          case measure => simp [intOf]; omega
    · obtain rfl : k = 256 := by omega
      have h1 : ((w.alloc (.cells (u32s 256 zf) 94)).alloc (.cells (u32s 256 (tk 256)) 94)).heap[w.heap.size + 1]? = some (.cells (u32s 256 (tk 256)) 94) := heap_alloc2_new _ _ _
      have h0 : ((w.alloc (.cells (u32s 256 zf) 94)).alloc (.cells (u32s 256 (tk 256)) 94)).heap[w.heap.size]? = some (.cells (u32s 256 zf) 94) := heap_alloc2_old _ _ _
      have H0 := Lib.hid h0
      have H1 := Lib.hid h1
      clear h0 h1
      go_wp2_with (first | (refine wpList_load_row rfl 94 _ rfl (w.heap.size + 1) rfl 94 _ (0, 0) _ H1.out Try.underlying94 rfl (by rw [size_u32s]; exact tab_size) ?_) | (refine wpList_store_row rfl 94 _ _ rfl w.heap.size _ rfl rfl 94 _ H0.out (by rw [size_u32s]; exact tab_size) (by rw [size_u32s, size_u32s]) (one_u32s _ _) ?_))
      refine bodyPost_ret_by (v := .agg (u32s 256 (tk 256))) (results_cell_row rfl _ _ w.heap.size 94 _ (0, 0) _ rfl (setRow_heap _ _ _ _ _ _ H0.out) Try.underlying94 rfl (by rw [size_u32s]; exact tab_size)) rfl ⟨?_, ?_⟩
      · rw [u32s_congr 256 (f := tk 256) (g := tab) (fun i hi => by unfold tk; rw [if_pos hi])]
      · exact below_setRow (((Below.refl _ _).alloc (Nat.le_refl _) _).alloc (by simp) _) (Nat.le_refl _) _

end Go.Proofs.Ytkgcjelipllpdaa
