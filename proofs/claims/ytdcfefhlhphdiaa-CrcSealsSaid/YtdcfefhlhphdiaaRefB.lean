/- Walks over the reference soukref01: Table, Back, Open, image. -/
import Derived.Test.YtdcfefhlhphdiaaRefA
import Derived.Test.YtdcfefhlhphdiaaCrcSealed2W
import Derived.Deep.RegionHeld3
namespace Go.Proofs.Ytdcfefhlhphdiaa
open Go.RowKit

theorem upd_zero (c : BitVec 32) : upd c 0 = up 8 c := by
  unfold upd
  rw [show ext 0 = 0#32 from rfl, BitVec.xor_zero]
theorem over_zero (n : Int) (c : BitVec 32) (hn : n = (c.toNat : Int)) (w : World) :
    Calls Try.prog 36 #[.int .u32 n, .int .u8 0] w fun e w' => e = .returned (.int .u32 (up 8 c).toNat) ∧ w = w' := by
  subst hn
  have := over_any c 0 w
  rw [upd_zero] at this
  exact this

set_option maxRecDepth 100000 in
set_option maxHeartbeats 400000 in
theorem rtable_any (w : World) :
    Calls Try.prog 29 #[] w fun e w' => e = .returned (.agg (u32s 256 tab)) ∧ Below w.heap.size w w' := by
  have hz := zero_tab
  go_enter Try.func29, Try.ntmps29
  go_wp2_with fail
  clear hz
  go_loopw [2] (fun c wr => ∃ k : Nat, k ≤ 256 ∧ c = .int .i64 k ∧ wr = (w.alloc (.cells (u32s 256 zf) 45)).alloc (.cells (u32s 256 (tk k)) 45))
    (fun c _ => 256 - (intOf c).toNat)
  case atStart => exact ⟨0, by omega, rfl, by rw [tk_zero]⟩
  case round =>
    obtain ⟨k, hk, rfl, rfl⟩ := hrel
    by_cases hlt : k < 256
    · have HE := Lib.hid (show (k : Int) = ((BitVec.ofNat 32 k).toNat : Int) by rw [BitVec.toNat_ofNat, Nat.mod_eq_of_lt (by omega)])
      go_wp2_with (go_at_call 36; (with_reducible refine (over_zero _ _ HE.out _).mono ?_); rintro e w' ⟨rfl, rfl⟩)
      go_roundw
      case rel => exact ⟨k + 1, by omega, by go_num, by rw [set_u32s, ← tk_succ]; rfl⟩
      case measure => simp [intOf]; omega
    · obtain rfl : k = 256 := by omega
      have h1 : ((w.alloc (.cells (u32s 256 zf) 45)).alloc (.cells (u32s 256 (tk 256)) 45)).heap[w.heap.size + 1]? = some (.cells (u32s 256 (tk 256)) 45) := heap_alloc2_new _ _ _
      have h0 : ((w.alloc (.cells (u32s 256 zf) 45)).alloc (.cells (u32s 256 (tk 256)) 45)).heap[w.heap.size]? = some (.cells (u32s 256 zf) 45) := heap_alloc2_old _ _ _
      have H0 := Lib.hid h0
      have H1 := Lib.hid h1
      clear h0 h1
      go_wp2_with (first | (refine wpList_load_row rfl 45 _ rfl (w.heap.size + 1) rfl 45 _ (0, 0) _ H1.out Try.underlying45 rfl (by rw [size_u32s]; exact tab_size) ?_) | (refine wpList_store_row rfl 45 _ _ rfl w.heap.size _ rfl rfl 45 _ H0.out (by rw [size_u32s]; exact tab_size) (by rw [size_u32s, size_u32s]) (one_u32s _ _) ?_))
      refine bodyPost_ret_by (v := .agg (u32s 256 (tk 256))) (results_cell_row rfl _ _ w.heap.size 45 _ (0, 0) _ rfl (setRow_heap _ _ _ _ _ _ H0.out) Try.underlying45 rfl (by rw [size_u32s]; exact tab_size)) rfl ⟨?_, ?_⟩
      · rw [u32s_congr 256 (f := tk 256) (g := tab) (fun i hi => by unfold tk; rw [if_pos hi])]
      · exact below_setRow (((Below.refl _ _).alloc (Nat.le_refl _) _).alloc (by simp) _) (Nat.le_refl _) _

theorem shr31 (x : BitVec 32) : ((x.toNat : Int) / (2147483648 : Int)) = ((bitw (x.getLsbD 31)).toNat : Int) := by
  have h := g_shr x 31
  have e : x >>> 31 = bitw (x.getLsbD 31) := by
    apply BitVec.eq_of_getLsbD_eq
    intro i hi
    rw [BitVec.getLsbD_ushiftRight]
    by_cases h0 : i = 0
    · subst h0; rw [bitw_bit0]
    · rw [BitVec.getLsbD_of_ge _ _ (by omega)]
      unfold bitw
      cases x.getLsbD 31
      · simp
      · simp only [if_true]; rw [BitVec.getLsbD_ofNat, testBit1 i h0]; simp
  rw [← e, ← h]; rfl
theorem bitw_one (v : Bool) : (((bitw v).toNat : Int) == 1) = v := by cases v <;> rfl
theorem xor_bitw (u v : Bool) : bits .xor .u32 ((bitw u).toNat : Int) ((bitw v).toNat : Int) = ((bitw (u != v)).toNat : Int) := by
  rw [g_xor]; cases u <;> cases v <;> rfl
theorem shl1 (x : BitVec 32) : ((x.toNat : Int) * (2 : Int) % (4294967296 : Int)) = ((x <<< 1).toNat : Int) := by
  rw [BitVec.toNat_shiftLeft, Nat.shiftLeft_eq]; omega
theorem xor_poly0 (x : BitVec 32) : bits .xor .u32 (x.toNat : Int) 3988292384 = ((x ^^^ poly).toNat : Int) := g_xor_n x 3988292384 (by omega)
theorem shd_val (x : BitVec 32) (u v : Bool) : bits .or .u32 ((x.toNat : Int) * 2 % 4294967296) (bits .xor .u32 ((bitw u).toNat : Int) ((bitw v).toNat : Int)) = ((x <<< 1 ||| bitw (u != v)).toNat : Int) := by
  rw [shl1, xor_bitw, g_or]
def bitv (v : Bool) : Int := ((bitw v).toNat : Int)

end Go.Proofs.Ytdcfefhlhphdiaa
