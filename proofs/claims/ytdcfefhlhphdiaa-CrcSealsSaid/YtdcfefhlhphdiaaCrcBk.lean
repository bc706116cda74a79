/- Walks over package crc: back over a string. -/
import Derived.Test.YtdcfefhlhphdiaaCrcBL
import Derived.Test.YtdcfefhlhphdiaaCrcA
import Derived.Deep.QuietTactic
import Derived.BigQuiet
namespace Go.Proofs.Ytdcfefhlhphdiaa
open Go.RowKit

theorem zero_at (w : World) : (zeroValue 56).run Try.prog w = .ok (.agg (u8s 256 fun _ => 0)) w := by kernel_rfl
theorem index_tab (f : Nat → BitVec 32) (k : Nat) (h : k < 256) (w : World) :
    (Instr.index 45 (.agg (u32s 256 f)) (.int .i64 (k : Int))).run Try.prog w = .ok (.int .u32 ((f k).toNat : Int)) w := by
  have h1 : 0 ≤ (k : Int) ∧ (k : Int) < 256 := by omega
  have h2 := get_u32s 256 f k h
  simp only [Instr.index, asIntOf, Sem.run_bind, Sem.run_pure, Result.andThen_ok, run_underlying Try.underlying45]
  simp [h1, part, h2, Sem.run_pure]
@[go_sem] theorem g_top (x : BitVec 32) : ((x.toNat : Int) / (16777216 : Int)) = ((top x : Nat) : Int) := by
  unfold top; omega

theorem atTo_set (k : Nat) (h : k < 256) : (u8s 256 (atTo k)).setIfInBounds (top (tab k)) (.int .u8 (k : Int)) = u8s 256 (atTo (k + 1)) := by
  have e : (k : Int) = ((UInt8.ofNat k).toNat : Int) := by rw [UInt8.toNat_ofNat', Nat.mod_eq_of_lt h]
  rw [e, set_u8s]; rfl
theorem drop_snoc (s : ByteArray) (j : Nat) (h : j < s.size) : s.data.toList.drop j = s[j] :: s.data.toList.drop (j + 1) := by
  rw [List.drop_eq_getElem_cons (by simpa using h)]; rfl
theorem bk_snoc (c : BitVec 32) (s : ByteArray) (j : Nat) (h : j < s.size) : bk c (s.data.toList.drop j) = bkw (bk c (s.data.toList.drop (j + 1))) s[j] := by
  rw [drop_snoc s j h, bkw_eq]; rfl

set_option maxRecDepth 100000 in
set_option maxHeartbeats 400000 in
theorem back_str (c : BitVec 32) (s : ByteArray) (w : World) (hs : s.size ≤ 1000000000) :
    Calls Try.prog 31 #[.agg (u32s 256 tab), .int .u32 c.toNat, .string s] w
      fun e w' => e = .returned (.int .u32 (bk c s.data.toList).toNat) ∧ Below w.heap.size w w' := by
  have hz := zero_at
  have h0 : (w.alloc (.cells (u32s 256 tab) 45)).heap[w.heap.size]? = some (.cells (u32s 256 tab) 45) := heap_alloc_new _ _
  have h1 : ((w.alloc (.cells (u32s 256 tab) 45)).alloc (.cells (u8s 256 fun _ => 0) 56)).heap[w.heap.size]? = some (.cells (u32s 256 tab) 45) := heap_alloc2_old _ _ _
  have H1 := Lib.hid h1
  clear h0 h1
  go_enter Try.func31, Try.ntmps31
  go_wp2_with (refine wpList_load_row rfl 45 _ rfl w.heap.size rfl 45 _ (0, 0) _ H1.out Try.underlying45 rfl (by rw [size_u32s]; exact tab_size) ?_)
  clear hz H1
  go_loopw [13] (fun i wr => ∃ k : Nat, k ≤ 256 ∧ i = .int .i64 k ∧ wr = (w.alloc (.cells (u32s 256 tab) 45)).alloc (.cells (u8s 256 (atTo k)) 56)) (fun i _ => 256 - (intOf i).toNat)
  case atStart => exact ⟨0, by omega, rfl, rfl⟩
  case round =>
    obtain ⟨k, hk, rfl, rfl⟩ := hrel
    by_cases hlt : k < 256
    · have hix := index_tab tab k hlt
      have htl := top_lt (tab k)
      go_wp2_with fail
      go_roundw
      case rel => exact ⟨k + 1, by omega, by go_num, by rw [atTo_set k hlt]⟩
      case measure => simp [intOf]; omega
    · obtain rfl : k = 256 := by omega
      have h1 : ((w.alloc (.cells (u32s 256 tab) 45)).alloc (.cells (u8s 256 (atTo 256)) 56)).heap[w.heap.size]? = some (.cells (u32s 256 tab) 45) := heap_alloc2_old _ _ _
      have h2 : ((w.alloc (.cells (u32s 256 tab) 45)).alloc (.cells (u8s 256 (atTo 256)) 56)).heap[w.heap.size + 1]? = some (.cells (u8s 256 (atTo 256)) 56) := heap_alloc2_new _ _ _
      have hbl : Below w.heap.size w ((w.alloc (.cells (u32s 256 tab) 45)).alloc (.cells (u8s 256 (atTo 256)) 56)) := bel_alloc (bel_alloc (Below.refl _ _) _) _
      have H1 := Lib.hid h1
      have H2 := Lib.hid h2
      have HB := Lib.hid hbl
      clear h1 h2 hbl
      go_wp2_with fail
      go_loopw [1, 10] (fun x i wr => ∃ j : Nat, j ≤ s.size ∧ i = .int .i64 ((j : Int) - 1) ∧ x = .int .u32 (bk c (s.data.toList.drop j)).toNat ∧ wr.heap[w.heap.size]? = some (.cells (u32s 256 tab) 45) ∧ wr.heap[w.heap.size + 1]? = some (.cells (u8s 256 (atTo 256)) 56) ∧ Below w.heap.size w wr) (fun _ i _ => (intOf i + 1).toNat)
      case atStart => exact ⟨s.size, by omega, rfl, by rw [List.drop_of_length_le (by simp)]; rfl, H1.out, H2.out, HB.out⟩
      case round =>
        obtain ⟨j, hj, rfl, rfl, h1, h2, hb⟩ := hrel
        clear H1 H2 HB
        have H1 := Lib.hid h1
        have H2 := Lib.hid h2
        clear h1 h2
        by_cases h0 : j = 0
        · subst h0
          go_wp2_with fail
          go_ret
          exact ⟨ret_int (by rw [List.drop_zero]), hb⟩
        · obtain ⟨i, rfl⟩ : ∃ i, j = i + 1 := ⟨j - 1, by omega⟩
          have e1 : ((i + 1 : Nat) : Int) - 1 = (i : Int) := by omega
          rw [e1]
          have hi : i < s.size := by omega
          have hi0 : (0 : Int) ≤ (i : Int) := by omega
          have hi' : (i : Int) < (s.size : Int) := by omega
          clear h0 e1
          have htl := top_lt (bk c (s.data.toList.drop (i + 1)))
          have hil := b8lt (inv (top (bk c (s.data.toList.drop (i + 1)))))
          have hc2 : wr.cell? ⟨w.heap.size + 1, top (bk c (s.data.toList.drop (i + 1))), none⟩ = some (.int .u8 ((inv (top (bk c (s.data.toList.drop (i + 1))))).toNat : Int)) := by
            rw [cell_of_row _ _ _ _ _ _ H2.out, get_u8s _ _ _ htl, atTo_all _ htl]
          have hc1 : wr.cell? ⟨w.heap.size, (inv (top (bk c (s.data.toList.drop (i + 1))))).toNat, none⟩ = some (.int .u32 ((tab (inv (top (bk c (s.data.toList.drop (i + 1))))).toNat).toNat : Int)) := by
            rw [cell_of_row _ _ _ _ _ _ H1.out, get_u32s _ _ _ hil]
          go_wp2_with fail
          go_quiet (fail)
          go_wp2_with fail
          go_roundw
          case rel => exact ⟨i, by omega, rfl, by rw [bkw_val, bk_snoc _ _ _ hi], H1.out, H2.out, below_drewN hb _⟩
          case measure => simp [intOf]

end Go.Proofs.Ytdcfefhlhphdiaa
