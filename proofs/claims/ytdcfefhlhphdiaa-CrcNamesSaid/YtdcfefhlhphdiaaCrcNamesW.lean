/- The walk over souklaw01.CrcNames. -/
import Derived.Test.YtdcfefhlhphdiaaCrcTellsW
import Derived.Test.YtdcfefhlhphdiaaCrcForgeW
namespace Go.Proofs.Ytdcfefhlhphdiaa
open Go.RowKit

theorem tab_neq (w : World) : (binOp .neq 45 (.agg (u32s 256 tab)) (.agg (u32s 256 tab))).run Try.prog w = .ok (.bool false) w := by kernel_rfl
theorem tab_one : ((tab 1).toNat : Int) = 1996959894 := by decide +kernel
theorem tab_128 : ((tab 128).toNat : Int) = 3988292384 := by decide +kernel
theorem open_short_lit (a : Array UInt8) (w : World) (h : a.size < 4) :
    Calls Try.prog 16 #[.string ⟨a⟩] w fun e w' => e = .returned (.tuple #[.string (bs []), .int .i64 8]) ∧ Below w.heap.size w w' := open_short ⟨a⟩ w h
theorem open_no_lit (a : Array UInt8) (w : World) (h : 4 ≤ a.size) (hs : a.size ≤ 1000000000) (hy : isSealed a.toList = false) :
    Calls Try.prog 16 #[.string ⟨a⟩] w fun e w' => e = .returned (.tuple #[.string (bs []), .int .i64 42]) ∧ Below w.heap.size w w' := open_no ⟨a⟩ w hs h hy
theorem open_yes_lit (a : Array UInt8) (y : ByteArray) (w : World) (h : 4 ≤ a.size) (hs : a.size ≤ 1000000000) (hy : isSealed a.toList = true) (e : (ByteArray.mk a).extract 0 (a.size - 4) = y) :
    Calls Try.prog 16 #[.string ⟨a⟩] w fun e w' => e = .returned (.tuple #[.string y, .int .i64 0]) ∧ Below w.heap.size w w' := open_to ⟨a⟩ y w hs h hy e
theorem forge_no_lit (a : Array UInt8) (k n : Int) (c : BitVec 32) (w : World) (hn : n = (c.toNat : Int)) (hs : a.size ≤ 1000000000) (h : k < 0 ∨ (a.size : Int) - 4 < k) :
    Calls Try.prog 19 #[.string ⟨a⟩, .int .i64 k, .int .u32 n] w fun e w' => e = .returned (.tuple #[.string (bs []), .int .i64 8]) ∧ Below w.heap.size w w' := by
  subst hn
  by_cases h0 : k < 0
  · exact forge_neg ⟨a⟩ k c w h0
  · exact forge_far ⟨a⟩ k c w hs (by omega) (by rcases h with h | h; omega; exact h)
theorem forge_yes_lit (a : Array UInt8) (k n : Int) (t : ByteArray) (c : BitVec 32) (m : Nat) (w : World) (hn : n = (c.toNat : Int)) (hk : k = (m : Int)) (hs : a.size ≤ 1000000000) (h : m + 4 ≤ a.size) (ht : bs (forgeL a.toList m c) = t) :
    Calls Try.prog 19 #[.string ⟨a⟩, .int .i64 k, .int .u32 n] w fun e w' => e = .returned (.tuple #[.string t, .int .i64 0]) ∧ Below w.heap.size w w' := by
  subst hn; subst hk
  exact forge_to ⟨a⟩ t m c w hs h ht
theorem both_neg_lit (x y n : Int) (a b : BitVec 32) (w : World) (hx : x = (a.toNat : Int)) (hy : y = (b.toNat : Int)) (hn : n < 0) :
    Calls Try.prog 20 #[.int .u32 x, .int .u32 y, .int .i64 n] w fun e w' => e = .returned (.int .u32 0) ∧ w = w' := by
  subst hx; subst hy; exact both_neg a b n w hn
theorem both_lit (x y z n : Int) (a b : BitVec 32) (m : Nat) (w : World) (hx : x = (a.toNat : Int)) (hy : y = (b.toNat : Int)) (hn : n = (m : Int)) (hm : m < 9223372036854775808) (hz : ((both a b m).toNat : Int) = z) :
    Calls Try.prog 20 #[.int .u32 x, .int .u32 y, .int .i64 n] w fun e w' => e = .returned (.int .u32 z) ∧ w = w' := by
  subst hx; subst hy; subst hn; subst hz; exact both_any a b m w hm
theorem both_zero (b : BitVec 32) (n : Nat) : both 0#32 b n = b := by unfold both xr; rw [up_zero, BitVec.zero_xor]
attribute [local go_sem] toList_bs

set_option maxRecDepth 100000 in
set_option maxHeartbeats 1000000 in
theorem names_law (w : World) : Calls Try.prog 11 #[] w fun e w' => e = .returned (.bool true) ∧ Below w.heap.size w w' := by
  have hneq := tab_neq
  have hz := zero_tab
  have h1 : ∀ w : World, (Instr.index 45 (.agg (u32s 256 tab)) (.int .i64 1)).run Try.prog w = .ok (.int .u32 ((tab 1).toNat : Int)) w := index_tab tab 1 (by decide)
  have h128 : ∀ w : World, (Instr.index 45 (.agg (u32s 256 tab)) (.int .i64 128)).run Try.prog w = .ok (.int .u32 ((tab 128).toNat : Int)) w := index_tab tab 128 (by decide)
  have t1 := tab_one
  have t128 := tab_128
  go_enter Try.func11, Try.ntmps11
  go_wp2_with fail
  with_reducible refine (awake_any _).mono ?_
  rintro e w1 ⟨rfl, hb1⟩
  go_wp2_with fail
  with_reducible refine (table_any _).mono ?_
  rintro e w2 ⟨rfl, hb2⟩
  go_wp2_with fail
  with_reducible refine (rtable_any _).mono ?_
  rintro e w3 ⟨rfl, hb3⟩
  go_wp2_with fail
  with_reducible refine (table_any _).mono ?_
  rintro e w4 ⟨rfl, hb4⟩
  have h0 := heap_alloc_new w4 (.cells (u32s 256 zf) 45)
  have H0 := Lib.hid h0
  clear h0
  obtain ⟨t, ht⟩ : ∃ t, bs (forgeL [97, 98, 99, 100] 0 5#32) = t := ⟨_, rfl⟩
  have hts : t.size = 4 := by rw [← ht, size_bs, length_forge _ _ _ (by decide)]; rfl
  have HT := Lib.hid ht
  clear ht
  go_upto_region 4 with (refine wpList_store_row rfl 45 _ _ rfl w4.heap.size _ rfl rfl 45 _ H0.out (by rw [size_u32s]; exact tab_size) (by rw [size_u32s, size_u32s]) (one_u32s _ _) ?_)
  rw [World.setRow_alloc_new]
  have hbl : Below w.heap.size w (w4.alloc (.cells ((u32s 256 tab).setIfInBounds 1 (.int .u32 7)) 45)) := bel_alloc (bel_trans (bel_trans (bel_trans hb1 hb2) hb3) hb4) _
  clear H0 hz
  go_wp2_with fail
  with_reducible refine (open_short_lit #[97, 98, 99] _ (by decide)).mono ?_
  rintro e w5 ⟨rfl, hb5⟩
  go_wp2_with fail
  with_reducible refine (open_no_lit #[97, 0, 0, 0, 0] _ (by decide) (by decide) (by decide +kernel)).mono ?_
  rintro e w6 ⟨rfl, hb6⟩
  go_wp2_with fail
  with_reducible refine (open_yes_lit #[0, 0, 0, 0] (bs []) _ (by decide) (by decide) (by decide +kernel) (ba_ext (by decide +kernel))).mono ?_
  rintro e w7 ⟨rfl, hb7⟩
  go_wp2_with fail
  with_reducible refine (forge_no_lit #[97, 98, 99] 0 1 1#32 _ (by decide) (by decide) (by decide)).mono ?_
  rintro e w8 ⟨rfl, hb8⟩
  go_wp2_with fail
  with_reducible refine (forge_no_lit #[97, 98, 99, 100] 1 1 1#32 _ (by decide) (by decide) (by decide)).mono ?_
  rintro e w9 ⟨rfl, hb9⟩
  go_wp2_with fail
  with_reducible refine (forge_no_lit #[97, 98, 99, 100] (-1) 1 1#32 _ (by decide) (by decide) (by decide)).mono ?_
  rintro e w10 ⟨rfl, hb10⟩
  go_wp2_with fail
  with_reducible refine (forge_yes_lit #[97, 98, 99, 100] 0 5 t 5#32 0 _ (by decide) (by decide) (by decide) (by decide) HT.out).mono ?_
  rintro e w11 ⟨rfl, hb11⟩
  go_wp2_with fail
  with_reducible refine (forge_no_lit #[97, 98, 99, 100] 4611686018427387904 1 1#32 _ (by decide) (by decide) (by decide)).mono ?_
  rintro e w12 ⟨rfl, hb12⟩
  go_wp2_with fail
  with_reducible refine (table_any _).mono ?_
  rintro e w13 ⟨rfl, hb13⟩
  go_wp2_with fail
  with_reducible refine (table_any _).mono ?_
  rintro e w14 ⟨rfl, hb14⟩
  go_wp2_with fail
  with_reducible refine (both_neg_lit 7 9 (-1) 7#32 9#32 _ (by decide) (by decide) (by decide)).mono ?_
  rintro e w15 ⟨rfl, rfl⟩
  go_wp2_with fail
  with_reducible refine (both_lit 7 9 14 0 7#32 9#32 0 _ (by decide) (by decide) (by decide) (by decide) (by decide +kernel)).mono ?_
  rintro e w16 ⟨rfl, rfl⟩
  go_wp2_with fail
  with_reducible refine (both_lit 0 9 9 4611686018427387904 0#32 9#32 4611686018427387904 _ (by decide) (by decide) (by omega) (by omega) (by rw [both_zero]; decide)).mono ?_
  rintro e w17 ⟨rfl, rfl⟩
  go_wp2_with fail
  go_ret
  exact ⟨rfl, bel_trans (bel_trans (bel_trans (bel_trans (bel_trans (bel_trans (bel_trans (bel_trans (bel_trans (bel_trans (hbl) hb5) hb6) hb7) hb8) hb9) hb10) hb11) hb12) hb13) hb14⟩

end Go.Proofs.Ytdcfefhlhphdiaa
