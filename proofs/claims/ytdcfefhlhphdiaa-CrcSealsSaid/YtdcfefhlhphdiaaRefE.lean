/- The walk over the reference soukref01.Both. -/
import Derived.Test.YtdcfefhlhphdiaaRefD
import Derived.Test.YtdcfefhlhphdiaaTimesW
namespace Go.Proofs.Ytdcfefhlhphdiaa
open Go.RowKit

theorem zero_32 (w : World) : (zeroValue 52).run Try.prog w = .ok (.agg (u32s 32 zf)) w := by kernel_rfl
theorem size_32 : (Try.prog.info? 52).map (·.size) = some 32 := by kernel_rfl
def pwTo (k i : Nat) : BitVec 32 := if i < k then pw 8 i else 0#32
theorem pwTo_zero : pwTo 0 = zf := by funext j; simp [pwTo, zf]
theorem pwTo_succ (k : Nat) : fupd (pwTo k) k (pw 8 k) = pwTo (k + 1) := by
  funext j; unfold fupd pwTo
  by_cases h : j = k
  · subst h; simp
  · rw [if_neg h]
    by_cases h2 : j < k
    · rw [if_pos h2, if_pos (by omega)]
    · rw [if_neg h2, if_neg (by omega)]

theorem one_shl (k : Nat) (h : k < 32) : (2 : Int) ^ k % 4294967296 = ((1#32 <<< k).toNat : Int) := by
  have : ∀ k, k < 32 → (2 : Int) ^ k % 4294967296 = ((1#32 <<< k).toNat : Int) := by decide +kernel
  exact this k h
/-- the row of what each bit becomes over j bits lies in block b -/
def mAt (w : World) (b j : Nat) : Prop := w.heap[b]? = some (.cells (u32s 32 (pw j)) 52)

theorem mAt.lt {w : World} {b j : Nat} (h : mAt w b j) : b < w.heap.size := (Array.getElem?_eq_some_iff.1 h).1
theorem mAt.keep {w w' : World} {b j : Nat} (h : mAt w b j) (hb : Below w.heap.size w w') : mAt w' b j := by
  unfold mAt; rw [hb.block b h.lt]; exact h
theorem mAt.set {w : World} {b j : Nat} (h : mAt w b j) {d : Nat} (hbd : b ≠ d) (q : Nat) (v : Value) : mAt (w.setCell ⟨d, q, none⟩ v) b j := by
  unfold mAt; rw [heap_setCell_other _ _ _ _ hbd]; exact h
theorem mAt.all {w : World} {b j q : Nat} (h : mAt w b j) (hq : q < 32) : w.rangeAt b 0 (u32s 32 (pw j)).toList ∧ w.cell? ⟨b, q, none⟩ = some (.int .u32 ((pw j q).toNat : Int)) ∧ mAt w b j := by
  refine ⟨?_, ?_, h⟩
  · intro i v hv
    rw [Nat.zero_add, cell_of_row _ _ _ _ _ _ h, ← hv]; simp
  · rw [cell_of_row _ _ _ _ _ _ h, get_u32s _ _ _ hq]
theorem row_keep {w w' : World} {d : Nat} {f : Nat → BitVec 32} (h : w.heap[d]? = some (.cells (u32s 32 f) 52)) (hb : Below w.heap.size w w') : w'.heap[d]? = some (.cells (u32s 32 f) 52) := by
  rw [hb.block d (Array.getElem?_eq_some_iff.1 h).1]; exact h
theorem row_cell {w : World} {d q : Nat} {f : Nat → BitVec 32} (h : w.heap[d]? = some (.cells (u32s 32 f) 52)) (hq : q < 32) : w.cell? ⟨d, q, none⟩ = some (.int .u32 ((f q).toNat : Int)) := by
  rw [cell_of_row _ _ _ _ _ _ h, get_u32s _ _ _ hq]
/-- the first q bits' images of the next row -/
def dTo (j q i : Nat) : BitVec 32 := if i < q then pw (j + j) i else 0#32
theorem dTo_zero (j : Nat) : dTo j 0 = zf := by funext i; simp [dTo, zf]
theorem dTo_succ (j q : Nat) : fupd (dTo j q) q (up j (pw j q)) = dTo j (q + 1) := by
  funext i; unfold fupd dTo
  by_cases h : i = q
  · subst h; rw [if_pos rfl, if_pos (by omega)]; unfold pw; rw [← up_add]
  · rw [if_neg h]
    by_cases h2 : i < q
    · rw [if_pos h2, if_pos (by omega)]
    · rw [if_neg h2, if_neg (by omega)]

set_option maxRecDepth 100000 in
set_option maxHeartbeats 1000000 in
theorem rboth_any (a b : BitVec 32) (n : Nat) (w : World) (hn : n < 9223372036854775808) :
    Calls Try.prog 27 #[.int .u32 a.toNat, .int .u32 b.toNat, .int .i64 n] w fun e w' => e = .returned (.int .u32 (both a b n).toNat) ∧ Below w.heap.size w w' := by
  have HN := Lib.hid hn
  have hz := zero_32
  have hdn : decide ((n : Int) < 0) = false := by simp
  clear hn
  go_enter Try.func27, Try.ntmps27
  go_wp2_with fail
  clear hz
  go_loopw [8] (fun c wr => ∃ k : Nat, k ≤ 32 ∧ c = .int .i64 k ∧ wr = w.alloc (.cells (u32s 32 (pwTo k)) 52)) (fun c _ => 32 - (intOf c).toNat)
  case atStart => exact ⟨0, by omega, rfl, by rw [pwTo_zero]⟩
  case round =>
    obtain ⟨k, hk, rfl, rfl⟩ := hrel
    by_cases hlt : k < 32
    · have HE := Lib.hid (one_shl k hlt)
      go_wp2_with (go_at_call 36; (with_reducible refine (over_zero _ _ HE.out _).mono ?_); rintro e w' ⟨rfl, rfl⟩)
      go_roundw
      case rel => exact ⟨k + 1, by omega, by go_num, by rw [set_u32s, ← pwTo_succ]; rfl⟩
      case measure => simp [intOf]; omega
    · obtain rfl : k = 32 := by omega
      have h0 : mAt (w.alloc (.cells (u32s 32 (pwTo 32)) 52)) w.heap.size 8 := by
        rw [u32s_congr 32 (f := pwTo 32) (g := pw 8) (fun i hi => by unfold pwTo; rw [if_pos hi])]
        exact heap_alloc_new _ _
      have hb0 : Below w.heap.size w (w.alloc (.cells (u32s 32 (pwTo 32)) 52)) := bel_alloc (Below.refl _ _) _
      have H0 := Lib.hid h0
      have HB0 := Lib.hid hb0
      clear h0 hb0
      go_wp2_with fail
      rw [show (((32 : Nat) : Int)) = (32 : Int) from rfl]
      go_loopw [0, 2] (fun x m wr => ∃ k i j : Nat, k ≤ n ∧ i + j * k = 8 * n ∧ m = .int .i64 k ∧ x = .int .u32 (up i a).toNat ∧ mAt wr w.heap.size j ∧ Below w.heap.size w wr) (fun _ m _ => (intOf m).toNat)
      case atStart => exact ⟨n, 0, 8, by omega, by omega, rfl, rfl, H0.out, HB0.out⟩
      case round =>
        obtain ⟨k, i, j, hk, hij, rfl, rfl, hm, hbl⟩ := hrel
        clear H0 HB0
        have HIJ := Lib.hid hij
        have HM := Lib.hid hm
        clear hij hm
        have hkn := HN.out
        by_cases h0 : k = 0
        · subst h0
          go_wp2_with fail
          go_ret
          exact ⟨ret_int (by rw [show i = 8 * n from by have := HIJ.out; omega]; rfl), hbl⟩
        · have hpos : 0 < k := by omega
          have hd : decide ((0 : Int) < (k : Int)) = true := by simp; omega
          have hz := zero_32
          by_cases hodd : k % 2 = 1
          · have ho : ((k : Int) % 2 == 1) = true := by rw [beq_iff_eq]; omega
            go_wp2_with (refine wpList_load_row rfl 52 _ rfl w.heap.size rfl 52 _ (0, 0) _ HM.out Try.underlying52 rfl (by rw [size_u32s]; exact size_32) ?_)
            refine (image_any (pw j) _ _).mono ?_
            rw [image_pw]
            rintro e w3 ⟨rfl, hb3⟩
            have HM3 := Lib.hid (mAt.keep HM.out hb3)
            go_wp2_with fail
            clear hz
            rw [← up_add]
            have hlt0 : w.heap.size < w3.heap.size := mAt.lt HM3.out
            have hMq : mAt (w3.alloc (.cells (u32s 32 zf) 52)) w.heap.size j := mAt.keep HM3.out (bel_alloc (Below.refl _ _) _)
            have hDq := heap_alloc_new w3 (.cells (u32s 32 zf) 52)
            have hbq : Below w.heap.size w (w3.alloc (.cells (u32s 32 zf) 52)) := bel_alloc (bel_trans hbl hb3) _
            generalize w3.alloc (.cells (u32s 32 zf) 52) = wd at *
            generalize w3.heap.size = D at *
            have HMq := Lib.hid hMq
            have HDq := Lib.hid hDq
            have HBq := Lib.hid hbq
            clear hMq hDq hbq
            go_loopw [10] (fun y wr => ∃ q : Nat, q ≤ 32 ∧ y = .int .i64 q ∧ mAt wr w.heap.size j ∧ wr.heap[D]? = some (.cells (u32s 32 (dTo j q)) 52) ∧ Below w.heap.size w wr) (fun y _ => 32 - (intOf y).toNat)
            case atStart => exact ⟨0, by omega, rfl, HMq.out, by rw [dTo_zero]; exact HDq.out, HBq.out⟩
            case round =>
              obtain ⟨q, hq, rfl, hmi, hdi, hbi⟩ := hrel
              clear HMq HDq HBq
              have HMi := Lib.hid hmi
              have HDi := Lib.hid hdi
              clear hmi hdi
              by_cases hq32 : q < 32
              · have hu := Try.underlying52
                have hinf : (Try.prog.info? 52).map (·.size) = some ((u32s 32 (pw j)).toList).length := by rw [Array.length_toList, size_u32s]; exact size_32
                have g1 : (0 : Int) ≤ (q : Int) := by omega
                have g2 : (q : Int) < 32 := by omega
                go_wp2_with fail
                go_region_held3 (fun w' => w'.rangeAt w.heap.size 0 (u32s 32 (pw j)).toList ∧ w'.cell? ⟨w.heap.size, q, none⟩ = some (.int .u32 ((pw j q).toNat : Int)) ∧ mAt w' w.heap.size j)
                  (first | exact mAt.all (w := wr.drew) HMi.out hq32 | exact mAt.all (mAt.keep (And.right (And.right (by assumption))) (by assumption)) hq32 | exact mAt.all (mAt.set (And.right (And.right (by assumption))) (Nat.ne_of_lt hlt0) _ _) hq32)
                  (first | (go_at_call 37; (with_reducible refine (image_T j _ _ rfl _).mono ?_); rintro e w5 ⟨rfl, hb5⟩; have HD5 := Lib.hid (row_keep HDi.out (bel_undrew hb5)); have hc5 : w5.cell? ⟨D, q, none⟩ = some (.int .u32 ((dTo j q q).toNat : Int)) := row_cell HD5.out hq32; have hf5 : w5.frozen? ⟨D, q, none⟩ = false := frozen_of_row _ _ _ _ _ HD5.out))
                go_wp2_with fail
                go_roundw
                case rel =>
                  refine ⟨q + 1, by omega, by go_num, And.right (And.right (by assumption)), ?_, ?_⟩
                  · rw [heap_setCell_same _ _ _ _ _ _ HD5.out, set_u32s, dTo_succ]
                  · exact (bel_trans hbi (bel_undrew hb5)).setCell (Nat.le_of_lt hlt0) _
                case measure => simp [intOf]; omega
              · obtain rfl : q = 32 := by omega
                have hD32 : wr.heap[D]? = some (.cells (u32s 32 (pw (j + j))) 52) := by
                  have h := HDi.out
                  rw [u32s_congr 32 (f := dTo j 32) (g := pw (j + j)) (fun i hi => by unfold dTo; rw [if_pos hi])] at h
                  exact h
                have HD32 := Lib.hid hD32
                clear hD32
                go_wp2_with (first | (refine wpList_load_row rfl 52 _ rfl D rfl 52 _ (0, 0) _ HD32.out Try.underlying52 rfl (by rw [size_u32s]; exact size_32) ?_) | (refine wpList_store_row rfl 52 _ _ rfl w.heap.size _ rfl rfl 52 _ HMi.out (by rw [size_u32s]; exact size_32) (by rw [size_u32s, size_u32s]) (one_u32s _ _) ?_))
                go_roundw
                case rel =>
                  refine ⟨k / 2, i + j, j + j, by omega, ?_, by go_num, rfl, setRow_heap _ _ _ _ _ _ HMi.out, below_setRow hbi (Nat.le_refl _) _⟩
                  have h1 := HIJ.out
                  have h3 : k = 2 * (k / 2) + 1 := by omega
                  rw [h3] at h1
                  rw [← h1, Nat.mul_add, Nat.mul_one, Nat.add_mul, ← Nat.mul_assoc, Nat.mul_comm j 2, Nat.mul_assoc]
                  omega
                case measure => simp only [intOf]; omega
          · have ho : ((k : Int) % 2 == 1) = false := by rw [beq_eq_false_iff_ne]; omega
            go_wp2_with fail
            clear hz
            have hlt0 : w.heap.size < wr.heap.size := mAt.lt HM.out
            have hMq : mAt (wr.alloc (.cells (u32s 32 zf) 52)) w.heap.size j := mAt.keep HM.out (bel_alloc (Below.refl _ _) _)
            have hDq := heap_alloc_new wr (.cells (u32s 32 zf) 52)
            have hbq : Below w.heap.size w (wr.alloc (.cells (u32s 32 zf) 52)) := bel_alloc (hbl) _
            generalize wr.alloc (.cells (u32s 32 zf) 52) = wd at *
            generalize wr.heap.size = D at *
            have HMq := Lib.hid hMq
            have HDq := Lib.hid hDq
            have HBq := Lib.hid hbq
            clear hMq hDq hbq
            go_loopw [10] (fun y wr => ∃ q : Nat, q ≤ 32 ∧ y = .int .i64 q ∧ mAt wr w.heap.size j ∧ wr.heap[D]? = some (.cells (u32s 32 (dTo j q)) 52) ∧ Below w.heap.size w wr) (fun y _ => 32 - (intOf y).toNat)
            case atStart => exact ⟨0, by omega, rfl, HMq.out, by rw [dTo_zero]; exact HDq.out, HBq.out⟩
            case round =>
              obtain ⟨q, hq, rfl, hmi, hdi, hbi⟩ := hrel
              clear HMq HDq HBq
              have HMi := Lib.hid hmi
              have HDi := Lib.hid hdi
              clear hmi hdi
              by_cases hq32 : q < 32
              · have hu := Try.underlying52
                have hinf : (Try.prog.info? 52).map (·.size) = some ((u32s 32 (pw j)).toList).length := by rw [Array.length_toList, size_u32s]; exact size_32
                have g1 : (0 : Int) ≤ (q : Int) := by omega
                have g2 : (q : Int) < 32 := by omega
                go_wp2_with fail
                go_region_held3 (fun w' => w'.rangeAt w.heap.size 0 (u32s 32 (pw j)).toList ∧ w'.cell? ⟨w.heap.size, q, none⟩ = some (.int .u32 ((pw j q).toNat : Int)) ∧ mAt w' w.heap.size j)
                  (first | exact mAt.all (w := wr.drew) HMi.out hq32 | exact mAt.all (mAt.keep (And.right (And.right (by assumption))) (by assumption)) hq32 | exact mAt.all (mAt.set (And.right (And.right (by assumption))) (Nat.ne_of_lt hlt0) _ _) hq32)
                  (first | (go_at_call 37; (with_reducible refine (image_T j _ _ rfl _).mono ?_); rintro e w5 ⟨rfl, hb5⟩; have HD5 := Lib.hid (row_keep HDi.out (bel_undrew hb5)); have hc5 : w5.cell? ⟨D, q, none⟩ = some (.int .u32 ((dTo j q q).toNat : Int)) := row_cell HD5.out hq32; have hf5 : w5.frozen? ⟨D, q, none⟩ = false := frozen_of_row _ _ _ _ _ HD5.out))
                go_wp2_with fail
                go_roundw
                case rel =>
                  refine ⟨q + 1, by omega, by go_num, And.right (And.right (by assumption)), ?_, ?_⟩
                  · rw [heap_setCell_same _ _ _ _ _ _ HD5.out, set_u32s, dTo_succ]
                  · exact (bel_trans hbi (bel_undrew hb5)).setCell (Nat.le_of_lt hlt0) _
                case measure => simp [intOf]; omega
              · obtain rfl : q = 32 := by omega
                have hD32 : wr.heap[D]? = some (.cells (u32s 32 (pw (j + j))) 52) := by
                  have h := HDi.out
                  rw [u32s_congr 32 (f := dTo j 32) (g := pw (j + j)) (fun i hi => by unfold dTo; rw [if_pos hi])] at h
                  exact h
                have HD32 := Lib.hid hD32
                clear hD32
                go_wp2_with (first | (refine wpList_load_row rfl 52 _ rfl D rfl 52 _ (0, 0) _ HD32.out Try.underlying52 rfl (by rw [size_u32s]; exact size_32) ?_) | (refine wpList_store_row rfl 52 _ _ rfl w.heap.size _ rfl rfl 52 _ HMi.out (by rw [size_u32s]; exact size_32) (by rw [size_u32s, size_u32s]) (one_u32s _ _) ?_))
                go_roundw
                case rel =>
                  refine ⟨k / 2, i, j + j, by omega, ?_, by go_num, rfl, setRow_heap _ _ _ _ _ _ HMi.out, below_setRow hbi (Nat.le_refl _) _⟩
                  have h1 := HIJ.out
                  have h3 : k = 2 * (k / 2) := by omega
                  rw [h3] at h1
                  rw [← h1, Nat.add_mul, ← Nat.mul_assoc, Nat.mul_comm j 2, Nat.mul_assoc]
                  omega
                case measure => simp only [intOf]; omega

end Go.Proofs.Ytdcfefhlhphdiaa
