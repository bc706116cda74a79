/- souklaw03.MoneyNames: its walk. (Printed by wip/gen_mnw.py.) -/
import Derived.Test.YtikjnfghlohjkaaDoorMonNa
import Derived.Test.YtikjnfghlohjkaaDoorMonAw
import Derived.Test.YtikjnfghlohjkaaDoorMonFairW
namespace Go.Proofs.YtikjnfghlohjkaaDoor
open Go.RowKit Go.Shelf Go.Lib

def nmL : List ByteArray := [⟨#[]⟩, ⟨#[45]⟩, ⟨#[46]⟩, ⟨#[49]⟩, ⟨#[49, 46]⟩, ⟨#[46, 48, 48]⟩, ⟨#[49, 46, 53]⟩, ⟨#[49, 46, 53, 48, 53]⟩, ⟨#[48, 49, 46, 48, 48]⟩, ⟨#[48, 48, 46, 48, 48]⟩, ⟨#[45, 48, 46, 48, 48]⟩, ⟨#[43, 49, 46, 48, 48]⟩, ⟨#[45, 45, 49, 46, 48, 48]⟩, ⟨#[49, 46, 48, 120]⟩, ⟨#[120, 46, 48, 48]⟩, ⟨#[49, 46, 50, 46, 51]⟩, ⟨#[32, 49, 46, 48, 48]⟩, ⟨#[49, 44, 48, 48]⟩, ⟨#[45, 48, 49, 46, 48, 48]⟩]
theorem nm_par : ∀ k < 19, ∃ s, nmL[k]? = some s ∧ ParG s 0 4 := by
  intro k hk
  match k, hk with
  | 0, _ => exact ⟨_, rfl, bad_of (by unfold badL; simp)⟩
  | 1, _ => exact ⟨_, rfl, bad_of (by unfold badL; simp)⟩
  | 2, _ => exact ⟨_, rfl, bad_of (by unfold badL; simp)⟩
  | 3, _ => exact ⟨_, rfl, bad_of (by unfold badL; simp)⟩
  | 4, _ => exact ⟨_, rfl, bad_of (by unfold badL; simp)⟩
  | 5, _ => exact ⟨_, rfl, bad_of (by unfold badL; simp)⟩
  | 6, _ => exact ⟨_, rfl, bad_of (by unfold badL; simp)⟩
  | 7, _ => exact ⟨_, rfl, bad_of (by unfold badL; simp)⟩
  | 8, _ => exact ⟨_, rfl, bad_of (by unfold badL; simp)⟩
  | 9, _ => exact ⟨_, rfl, bad_of (by unfold badL; simp)⟩
  | 10, _ => exact ⟨_, rfl, par_minus⟩
  | 11, _ => exact ⟨_, rfl, bad_of (by unfold badL; simp)⟩
  | 12, _ => exact ⟨_, rfl, bad_of (by unfold badL; simp)⟩
  | 13, _ => exact ⟨_, rfl, bad_of (by unfold badL; simp)⟩
  | 14, _ => exact ⟨_, rfl, bad_of (by unfold badL; simp)⟩
  | 15, _ => exact ⟨_, rfl, bad_of (by unfold badL; simp)⟩
  | 16, _ => exact ⟨_, rfl, bad_of (by unfold badL; simp)⟩
  | 17, _ => exact ⟨_, rfl, bad_of (by unfold badL; simp)⟩
  | 18, _ => exact ⟨_, rfl, bad_of (by unfold badL; simp)⟩
  | k + 19, h => exact absurd h (by omega)
theorem add_ex (a b v e : Int) (ha : -9223372036854775808 ≤ a ∧ a ≤ 9223372036854775807) (hb : -9223372036854775808 ≤ b ∧ b ≤ 9223372036854775807) (hv : addV a b = v) (he : addE a b = e) (w : World) :
    Calls Tryd.prog 21 #[.int .i64 a, .int .i64 b] w fun r w' => r = .returned (.tuple #[.int .i64 v, .int .i64 e]) ∧ Below w.heap.size w w' := by
  have := add_any a b ha hb w
  rw [hv, he] at this
  exact this
theorem d17 : Lib.decDigits 92233720368547758 = [57, 50, 50, 51, 51, 55, 50, 48, 51, 54, 56, 53, 52, 55, 55, 53, 56] := by
  rw [Lib.decDigits, dif_neg (by omega)]; simp only [Nat.reduceDiv]
  iterate 14 (rw [Lib.decDigits, dif_neg (by omega)]; simp only [Nat.reduceDiv])
  rw [Lib.decDigits_two (by omega) (by omega)]; rfl
theorem d108 : Lib.decDigits 108 = [49, 48, 56] := by rw [Lib.decDigits, dif_neg (by omega), Lib.decDigits_two (by omega) (by omega)]; rfl
theorem sh3 : shS (-9223372036854775808) = ⟨#[45, 57, 50, 50, 51, 51, 55, 50, 48, 51, 54, 56, 53, 52, 55, 55, 53, 56, 46, 48, 56]⟩ := by
  unfold shS dg
  rw [show (-9223372036854775808 : Int).natAbs / 100 = 92233720368547758 from rfl, show 100 + (-9223372036854775808 : Int).natAbs % 100 = 108 from rfl, d17, d108]
  decide +kernel
theorem show_ex3 (w : World) (h : PowT w) : Calls Tryd.prog 19 #[.int .i64 (-9223372036854775808)] w fun e w' => e = .returned (.string ⟨#[45, 57, 50, 50, 51, 51, 55, 50, 48, 51, 54, 56, 53, 52, 55, 55, 53, 56, 46, 48, 56]⟩) ∧ Below w.heap.size w w' := by
  have := show_any (-9223372036854775808) (by omega) w h
  rw [sh3] at this
  exact this
set_option maxRecDepth 100000 in
set_option maxHeartbeats 16000000 in
theorem mnames_any (w : World) (hR : RngT w) (hP : PowT w) (hQ : RngP w) : Calls Tryd.prog 9 #[] w fun e w' => e = .returned (.bool true) ∧ Below w.heap.size w w' := by
  have HW := Lib.hid (awake_any w hR hP)
  have HR := Lib.hid hR
  have HP := Lib.hid hP
  have HQ := Lib.hid hQ
  clear hR hP hQ
  go_enter Tryd.func9, Tryd.ntmps9
  go_wp2_with fail
  refine HW.out.mono ?_
  rintro e w1 ⟨rfl, hb1⟩
  have HB1 := Lib.hid hb1
  clear hb1 HW
  go_wp2_with fail
  obtain ⟨W1, eW1⟩ : ∃ W1, w1.alloc (.cells #[.string ⟨#[]⟩, .string ⟨#[45]⟩, .string ⟨#[46]⟩, .string ⟨#[49]⟩, .string ⟨#[49, 46]⟩, .string ⟨#[46, 48, 48]⟩, .string ⟨#[49, 46, 53]⟩, .string ⟨#[49, 46, 53, 48, 53]⟩, .string ⟨#[48, 49, 46, 48, 48]⟩, .string ⟨#[48, 48, 46, 48, 48]⟩, .string ⟨#[45, 48, 46, 48, 48]⟩, .string ⟨#[43, 49, 46, 48, 48]⟩, .string ⟨#[45, 45, 49, 46, 48, 48]⟩, .string ⟨#[49, 46, 48, 120]⟩, .string ⟨#[120, 46, 48, 48]⟩, .string ⟨#[49, 46, 50, 46, 51]⟩, .string ⟨#[32, 49, 46, 48, 48]⟩, .string ⟨#[49, 44, 48, 48]⟩, .string ⟨#[45, 48, 49, 46, 48, 48]⟩] 9) = W1 := ⟨_, rfl⟩
  have hcl : ∀ k s, nmL[k]? = some s → W1.cell? ⟨w1.heap.size, k, none⟩ = some (.string s) := by
    intro k s hk
    rw [← eW1, World.cell?_alloc_new]
    have : (#[.string ⟨#[]⟩, .string ⟨#[45]⟩, .string ⟨#[46]⟩, .string ⟨#[49]⟩, .string ⟨#[49, 46]⟩, .string ⟨#[46, 48, 48]⟩, .string ⟨#[49, 46, 53]⟩, .string ⟨#[49, 46, 53, 48, 53]⟩, .string ⟨#[48, 49, 46, 48, 48]⟩, .string ⟨#[48, 48, 46, 48, 48]⟩, .string ⟨#[45, 48, 46, 48, 48]⟩, .string ⟨#[43, 49, 46, 48, 48]⟩, .string ⟨#[45, 45, 49, 46, 48, 48]⟩, .string ⟨#[49, 46, 48, 120]⟩, .string ⟨#[120, 46, 48, 48]⟩, .string ⟨#[49, 46, 50, 46, 51]⟩, .string ⟨#[32, 49, 46, 48, 48]⟩, .string ⟨#[49, 44, 48, 48]⟩, .string ⟨#[45, 48, 49, 46, 48, 48]⟩] : Array Value) = (nmL.map Value.string).toArray := rfl
    rw [this]
    simp [hk]
  have HB2 := Lib.hid (show Below w.heap.size w W1 by rw [← eW1]; exact HB1.out.alloc HB1.out.size _)
  have HCL := Lib.hid hcl
  rw [eW1]
  clear eW1 hcl HB1
  generalize w1.heap.size = g at *
  go_loopw [35] (fun iv wr => ∃ k : Nat, k ≤ 19 ∧ iv = .int .i64 k ∧ Below W1.heap.size W1 wr) (fun iv _ => 19 - (RowKit.intOf iv).toNat)
  case atStart => exact ⟨0, by omega, rfl, Below.refl _ _⟩
  case round =>
    obtain ⟨k, hk, rfl, hb⟩ := hrel
    have HB := Lib.hid hb
    clear hb
    by_cases hin : k < 19
    · obtain ⟨s, hs, hpar⟩ := nm_par k hin
      have x0 := (HB.out.cell (p := ⟨g, k, none⟩) (cell_lt (HCL.out k s hs))).trans (HCL.out k s hs)
      have HPAR := Lib.hid (hpar wr (HQ.out.keep (bel_trans HB2.out HB.out)) (HR.out.keep (bel_trans HB2.out HB.out)))
      have d2 : decide ((k : Int) < 19) = true := decide_eq_true (by omega)
      have g0 : (0 : Int) ≤ (k : Int) := by omega
      have g1 : (k : Int) < 19 := by omega
      clear hs hpar
      go_wp2_with fail
      refine HPAR.out.mono ?_
      rintro e w2 ⟨rfl, hb⟩
      have HB3 := Lib.hid (bel_trans HB.out hb)
      clear hb
      go_wp2_with fail
      go_roundw
      case rel => exact ⟨k + 1, by omega, by go_num, HB3.out⟩
      case measure => simp [RowKit.intOf]; omega
    · obtain rfl : k = 19 := by omega
      have HB4 := Lib.hid (bel_trans HB2.out HB.out)
      clear HB HCL hin hk HB2
      go_wp2_with fail
      obtain ⟨W2, eW2⟩ : ∃ W2, wr.alloc (.cells #[.int .i64 4611686018427387904, .int .i64 0, .int .i64 0, .int .i64 4611686018427387904, .int .i64 1, .int .i64 41, .int .i64 4611686018427387904, .int .i64 4611686018427387904, .int .i64 41, .int .i64 (-4611686018427387904), .int .i64 0, .int .i64 0, .int .i64 (-4611686018427387904), .int .i64 (-1), .int .i64 41, .int .i64 (-9223372036854775808), .int .i64 9223372036854775807, .int .i64 0, .int .i64 (-9223372036854775808), .int .i64 (-9223372036854775808), .int .i64 41, .int .i64 9223372036854775807, .int .i64 9223372036854775807, .int .i64 41, .int .i64 9223372036854775807, .int .i64 (-4611686018427387904), .int .i64 0, .int .i64 9223372036854775807, .int .i64 0, .int .i64 41] 34) = W2 := ⟨_, rfl⟩
      have HB5 := Lib.hid (show Below w.heap.size w W2 by rw [← eW2]; exact HB4.out.alloc HB4.out.size _)
      have hc2 : ∀ j v, (#[.int .i64 4611686018427387904, .int .i64 0, .int .i64 0, .int .i64 4611686018427387904, .int .i64 1, .int .i64 41, .int .i64 4611686018427387904, .int .i64 4611686018427387904, .int .i64 41, .int .i64 (-4611686018427387904), .int .i64 0, .int .i64 0, .int .i64 (-4611686018427387904), .int .i64 (-1), .int .i64 41, .int .i64 (-9223372036854775808), .int .i64 9223372036854775807, .int .i64 0, .int .i64 (-9223372036854775808), .int .i64 (-9223372036854775808), .int .i64 41, .int .i64 9223372036854775807, .int .i64 9223372036854775807, .int .i64 41, .int .i64 9223372036854775807, .int .i64 (-4611686018427387904), .int .i64 0, .int .i64 9223372036854775807, .int .i64 0, .int .i64 41] : Array Value)[j]? = some v → W2.cell? ⟨wr.heap.size, j, none⟩ = some v := by
        intro j v hj
        rw [← eW2, World.cell?_alloc_new]
        exact hj
      have HC2 := Lib.hid hc2
      rw [eW2]
      clear eW2 hc2 HB4
      generalize wr.heap.size = g2 at *
      go_loopw [63] (fun iv wr => ∃ k : Nat, k ≤ 10 ∧ iv = .int .i64 k ∧ Below W2.heap.size W2 wr) (fun iv _ => 10 - (RowKit.intOf iv).toNat)
      case atStart => exact ⟨0, by omega, rfl, Below.refl _ _⟩
      case round =>
        obtain ⟨k, hk, rfl, hb⟩ := hrel
        have HB6 := Lib.hid hb
        clear hb
        rcases (show k = 0 ∨ k = 1 ∨ k = 2 ∨ k = 3 ∨ k = 4 ∨ k = 5 ∨ k = 6 ∨ k = 7 ∨ k = 8 ∨ k = 9 ∨ k = 10 by omega) with rfl | rfl | rfl | rfl | rfl | rfl | rfl | rfl | rfl | rfl | rfl
        · have x0 := (HB6.out.cell (p := ⟨g2, 0, none⟩) (cell_lt (HC2.out 0 _ rfl))).trans (HC2.out 0 (.int .i64 4611686018427387904) rfl)
          have x1 := (HB6.out.cell (p := ⟨g2, 1, none⟩) (cell_lt (HC2.out 1 _ rfl))).trans (HC2.out 1 (.int .i64 0) rfl)
          have x2 := (HB6.out.cell (p := ⟨g2, 2, none⟩) (cell_lt (HC2.out 2 _ rfl))).trans (HC2.out 2 (.int .i64 0) rfl)
          go_wp2_with fail
          refine (add_ex 4611686018427387904 0 4611686018427387904 0 (by omega) (by omega) (by decide) (by decide) _).mono ?_
          rintro e w2 ⟨rfl, hb⟩
          have HB8 := Lib.hid hb
          clear hb
          have hn : ∀ (j : Nat) (v : Value), (#[.int .i64 4611686018427387904, .int .i64 0, .int .i64 0] : Array Value)[j]? = some v → w2.cell? ⟨wr.heap.size, j, none⟩ = some v := fun j v hj => (HB8.out.cell (p := ⟨wr.heap.size, j, none⟩) (by simp)).trans (by rw [World.cell?_alloc_new]; exact hj)
          have y0 := hn 0 _ rfl
          have y1 := hn 1 _ rfl
          have y2 := hn 2 _ rfl
          clear hn x0 x1 x2
          go_wp2_with fail
          go_roundw
          case rel => exact ⟨_, _, _, _, _, _, _, _, _, _, _, _, _, _, _, _, _, _, _, _, _, _, _, _, _, _, _, _, _, _, _, _, _, _, _, _, _, _, _, _, _, _, ⟨1, by omega, rfl, bel_trans (HB6.out.alloc HB6.out.size _) HB8.out⟩, rfl⟩
          case measure => simp [RowKit.intOf]
        · have x0 := (HB6.out.cell (p := ⟨g2, 3, none⟩) (cell_lt (HC2.out 3 _ rfl))).trans (HC2.out 3 (.int .i64 4611686018427387904) rfl)
          have x1 := (HB6.out.cell (p := ⟨g2, 4, none⟩) (cell_lt (HC2.out 4 _ rfl))).trans (HC2.out 4 (.int .i64 1) rfl)
          have x2 := (HB6.out.cell (p := ⟨g2, 5, none⟩) (cell_lt (HC2.out 5 _ rfl))).trans (HC2.out 5 (.int .i64 41) rfl)
          go_wp2_with fail
          refine (add_ex 4611686018427387904 1 0 41 (by omega) (by omega) (by decide) (by decide) _).mono ?_
          rintro e w2 ⟨rfl, hb⟩
          have HB8 := Lib.hid hb
          clear hb
          have hn : ∀ (j : Nat) (v : Value), (#[.int .i64 4611686018427387904, .int .i64 1, .int .i64 41] : Array Value)[j]? = some v → w2.cell? ⟨wr.heap.size, j, none⟩ = some v := fun j v hj => (HB8.out.cell (p := ⟨wr.heap.size, j, none⟩) (by simp)).trans (by rw [World.cell?_alloc_new]; exact hj)
          have y0 := hn 0 _ rfl
          have y1 := hn 1 _ rfl
          have y2 := hn 2 _ rfl
          clear hn x0 x1 x2
          go_wp2_with fail
          go_roundw
          case rel => exact ⟨_, _, _, _, _, _, _, _, _, _, _, _, _, _, _, _, _, _, _, _, _, _, _, _, _, _, _, _, _, _, _, _, _, _, _, _, _, _, _, _, _, _, ⟨2, by omega, rfl, bel_trans (HB6.out.alloc HB6.out.size _) HB8.out⟩, rfl⟩
          case measure => simp [RowKit.intOf]
        · have x0 := (HB6.out.cell (p := ⟨g2, 6, none⟩) (cell_lt (HC2.out 6 _ rfl))).trans (HC2.out 6 (.int .i64 4611686018427387904) rfl)
          have x1 := (HB6.out.cell (p := ⟨g2, 7, none⟩) (cell_lt (HC2.out 7 _ rfl))).trans (HC2.out 7 (.int .i64 4611686018427387904) rfl)
          have x2 := (HB6.out.cell (p := ⟨g2, 8, none⟩) (cell_lt (HC2.out 8 _ rfl))).trans (HC2.out 8 (.int .i64 41) rfl)
          go_wp2_with fail
          refine (add_ex 4611686018427387904 4611686018427387904 0 41 (by omega) (by omega) (by decide) (by decide) _).mono ?_
          rintro e w2 ⟨rfl, hb⟩
          have HB8 := Lib.hid hb
          clear hb
          have hn : ∀ (j : Nat) (v : Value), (#[.int .i64 4611686018427387904, .int .i64 4611686018427387904, .int .i64 41] : Array Value)[j]? = some v → w2.cell? ⟨wr.heap.size, j, none⟩ = some v := fun j v hj => (HB8.out.cell (p := ⟨wr.heap.size, j, none⟩) (by simp)).trans (by rw [World.cell?_alloc_new]; exact hj)
          have y0 := hn 0 _ rfl
          have y1 := hn 1 _ rfl
          have y2 := hn 2 _ rfl
          clear hn x0 x1 x2
          go_wp2_with fail
          go_roundw
          case rel => exact ⟨_, _, _, _, _, _, _, _, _, _, _, _, _, _, _, _, _, _, _, _, _, _, _, _, _, _, _, _, _, _, _, _, _, _, _, _, _, _, _, _, _, _, ⟨3, by omega, rfl, bel_trans (HB6.out.alloc HB6.out.size _) HB8.out⟩, rfl⟩
          case measure => simp [RowKit.intOf]
        · have x0 := (HB6.out.cell (p := ⟨g2, 9, none⟩) (cell_lt (HC2.out 9 _ rfl))).trans (HC2.out 9 (.int .i64 (-4611686018427387904)) rfl)
          have x1 := (HB6.out.cell (p := ⟨g2, 10, none⟩) (cell_lt (HC2.out 10 _ rfl))).trans (HC2.out 10 (.int .i64 0) rfl)
          have x2 := (HB6.out.cell (p := ⟨g2, 11, none⟩) (cell_lt (HC2.out 11 _ rfl))).trans (HC2.out 11 (.int .i64 0) rfl)
          go_wp2_with fail
          refine (add_ex (-4611686018427387904) 0 (-4611686018427387904) 0 (by omega) (by omega) (by decide) (by decide) _).mono ?_
          rintro e w2 ⟨rfl, hb⟩
          have HB8 := Lib.hid hb
          clear hb
          have hn : ∀ (j : Nat) (v : Value), (#[.int .i64 (-4611686018427387904), .int .i64 0, .int .i64 0] : Array Value)[j]? = some v → w2.cell? ⟨wr.heap.size, j, none⟩ = some v := fun j v hj => (HB8.out.cell (p := ⟨wr.heap.size, j, none⟩) (by simp)).trans (by rw [World.cell?_alloc_new]; exact hj)
          have y0 := hn 0 _ rfl
          have y1 := hn 1 _ rfl
          have y2 := hn 2 _ rfl
          clear hn x0 x1 x2
          go_wp2_with fail
          go_roundw
          case rel => exact ⟨_, _, _, _, _, _, _, _, _, _, _, _, _, _, _, _, _, _, _, _, _, _, _, _, _, _, _, _, _, _, _, _, _, _, _, _, _, _, _, _, _, _, ⟨4, by omega, rfl, bel_trans (HB6.out.alloc HB6.out.size _) HB8.out⟩, rfl⟩
          case measure => simp [RowKit.intOf]
        · have x0 := (HB6.out.cell (p := ⟨g2, 12, none⟩) (cell_lt (HC2.out 12 _ rfl))).trans (HC2.out 12 (.int .i64 (-4611686018427387904)) rfl)
          have x1 := (HB6.out.cell (p := ⟨g2, 13, none⟩) (cell_lt (HC2.out 13 _ rfl))).trans (HC2.out 13 (.int .i64 (-1)) rfl)
          have x2 := (HB6.out.cell (p := ⟨g2, 14, none⟩) (cell_lt (HC2.out 14 _ rfl))).trans (HC2.out 14 (.int .i64 41) rfl)
          go_wp2_with fail
          refine (add_ex (-4611686018427387904) (-1) 0 41 (by omega) (by omega) (by decide) (by decide) _).mono ?_
          rintro e w2 ⟨rfl, hb⟩
          have HB8 := Lib.hid hb
          clear hb
          have hn : ∀ (j : Nat) (v : Value), (#[.int .i64 (-4611686018427387904), .int .i64 (-1), .int .i64 41] : Array Value)[j]? = some v → w2.cell? ⟨wr.heap.size, j, none⟩ = some v := fun j v hj => (HB8.out.cell (p := ⟨wr.heap.size, j, none⟩) (by simp)).trans (by rw [World.cell?_alloc_new]; exact hj)
          have y0 := hn 0 _ rfl
          have y1 := hn 1 _ rfl
          have y2 := hn 2 _ rfl
          clear hn x0 x1 x2
          go_wp2_with fail
          go_roundw
          case rel => exact ⟨_, _, _, _, _, _, _, _, _, _, _, _, _, _, _, _, _, _, _, _, _, _, _, _, _, _, _, _, _, _, _, _, _, _, _, _, _, _, _, _, _, _, ⟨5, by omega, rfl, bel_trans (HB6.out.alloc HB6.out.size _) HB8.out⟩, rfl⟩
          case measure => simp [RowKit.intOf]
        · have x0 := (HB6.out.cell (p := ⟨g2, 15, none⟩) (cell_lt (HC2.out 15 _ rfl))).trans (HC2.out 15 (.int .i64 (-9223372036854775808)) rfl)
          have x1 := (HB6.out.cell (p := ⟨g2, 16, none⟩) (cell_lt (HC2.out 16 _ rfl))).trans (HC2.out 16 (.int .i64 9223372036854775807) rfl)
          have x2 := (HB6.out.cell (p := ⟨g2, 17, none⟩) (cell_lt (HC2.out 17 _ rfl))).trans (HC2.out 17 (.int .i64 0) rfl)
          go_wp2_with fail
          refine (add_ex (-9223372036854775808) 9223372036854775807 (-1) 0 (by omega) (by omega) (by decide) (by decide) _).mono ?_
          rintro e w2 ⟨rfl, hb⟩
          have HB8 := Lib.hid hb
          clear hb
          have hn : ∀ (j : Nat) (v : Value), (#[.int .i64 (-9223372036854775808), .int .i64 9223372036854775807, .int .i64 0] : Array Value)[j]? = some v → w2.cell? ⟨wr.heap.size, j, none⟩ = some v := fun j v hj => (HB8.out.cell (p := ⟨wr.heap.size, j, none⟩) (by simp)).trans (by rw [World.cell?_alloc_new]; exact hj)
          have y0 := hn 0 _ rfl
          have y1 := hn 1 _ rfl
          have y2 := hn 2 _ rfl
          clear hn x0 x1 x2
          go_wp2_with fail
          go_roundw
          case rel => exact ⟨_, _, _, _, _, _, _, _, _, _, _, _, _, _, _, _, _, _, _, _, _, _, _, _, _, _, _, _, _, _, _, _, _, _, _, _, _, _, _, _, _, _, ⟨6, by omega, rfl, bel_trans (HB6.out.alloc HB6.out.size _) HB8.out⟩, rfl⟩
          case measure => simp [RowKit.intOf]
        · have x0 := (HB6.out.cell (p := ⟨g2, 18, none⟩) (cell_lt (HC2.out 18 _ rfl))).trans (HC2.out 18 (.int .i64 (-9223372036854775808)) rfl)
          have x1 := (HB6.out.cell (p := ⟨g2, 19, none⟩) (cell_lt (HC2.out 19 _ rfl))).trans (HC2.out 19 (.int .i64 (-9223372036854775808)) rfl)
          have x2 := (HB6.out.cell (p := ⟨g2, 20, none⟩) (cell_lt (HC2.out 20 _ rfl))).trans (HC2.out 20 (.int .i64 41) rfl)
          go_wp2_with fail
          refine (add_ex (-9223372036854775808) (-9223372036854775808) 0 41 (by omega) (by omega) (by decide) (by decide) _).mono ?_
          rintro e w2 ⟨rfl, hb⟩
          have HB8 := Lib.hid hb
          clear hb
          have hn : ∀ (j : Nat) (v : Value), (#[.int .i64 (-9223372036854775808), .int .i64 (-9223372036854775808), .int .i64 41] : Array Value)[j]? = some v → w2.cell? ⟨wr.heap.size, j, none⟩ = some v := fun j v hj => (HB8.out.cell (p := ⟨wr.heap.size, j, none⟩) (by simp)).trans (by rw [World.cell?_alloc_new]; exact hj)
          have y0 := hn 0 _ rfl
          have y1 := hn 1 _ rfl
          have y2 := hn 2 _ rfl
          clear hn x0 x1 x2
          go_wp2_with fail
          go_roundw
          case rel => exact ⟨_, _, _, _, _, _, _, _, _, _, _, _, _, _, _, _, _, _, _, _, _, _, _, _, _, _, _, _, _, _, _, _, _, _, _, _, _, _, _, _, _, _, ⟨7, by omega, rfl, bel_trans (HB6.out.alloc HB6.out.size _) HB8.out⟩, rfl⟩
          case measure => simp [RowKit.intOf]
        · have x0 := (HB6.out.cell (p := ⟨g2, 21, none⟩) (cell_lt (HC2.out 21 _ rfl))).trans (HC2.out 21 (.int .i64 9223372036854775807) rfl)
          have x1 := (HB6.out.cell (p := ⟨g2, 22, none⟩) (cell_lt (HC2.out 22 _ rfl))).trans (HC2.out 22 (.int .i64 9223372036854775807) rfl)
          have x2 := (HB6.out.cell (p := ⟨g2, 23, none⟩) (cell_lt (HC2.out 23 _ rfl))).trans (HC2.out 23 (.int .i64 41) rfl)
          go_wp2_with fail
          refine (add_ex 9223372036854775807 9223372036854775807 0 41 (by omega) (by omega) (by decide) (by decide) _).mono ?_
          rintro e w2 ⟨rfl, hb⟩
          have HB8 := Lib.hid hb
          clear hb
          have hn : ∀ (j : Nat) (v : Value), (#[.int .i64 9223372036854775807, .int .i64 9223372036854775807, .int .i64 41] : Array Value)[j]? = some v → w2.cell? ⟨wr.heap.size, j, none⟩ = some v := fun j v hj => (HB8.out.cell (p := ⟨wr.heap.size, j, none⟩) (by simp)).trans (by rw [World.cell?_alloc_new]; exact hj)
          have y0 := hn 0 _ rfl
          have y1 := hn 1 _ rfl
          have y2 := hn 2 _ rfl
          clear hn x0 x1 x2
          go_wp2_with fail
          go_roundw
          case rel => exact ⟨_, _, _, _, _, _, _, _, _, _, _, _, _, _, _, _, _, _, _, _, _, _, _, _, _, _, _, _, _, _, _, _, _, _, _, _, _, _, _, _, _, _, ⟨8, by omega, rfl, bel_trans (HB6.out.alloc HB6.out.size _) HB8.out⟩, rfl⟩
          case measure => simp [RowKit.intOf]
        · have x0 := (HB6.out.cell (p := ⟨g2, 24, none⟩) (cell_lt (HC2.out 24 _ rfl))).trans (HC2.out 24 (.int .i64 9223372036854775807) rfl)
          have x1 := (HB6.out.cell (p := ⟨g2, 25, none⟩) (cell_lt (HC2.out 25 _ rfl))).trans (HC2.out 25 (.int .i64 (-4611686018427387904)) rfl)
          have x2 := (HB6.out.cell (p := ⟨g2, 26, none⟩) (cell_lt (HC2.out 26 _ rfl))).trans (HC2.out 26 (.int .i64 0) rfl)
          go_wp2_with fail
          refine (add_ex 9223372036854775807 (-4611686018427387904) 4611686018427387903 0 (by omega) (by omega) (by decide) (by decide) _).mono ?_
          rintro e w2 ⟨rfl, hb⟩
          have HB8 := Lib.hid hb
          clear hb
          have hn : ∀ (j : Nat) (v : Value), (#[.int .i64 9223372036854775807, .int .i64 (-4611686018427387904), .int .i64 0] : Array Value)[j]? = some v → w2.cell? ⟨wr.heap.size, j, none⟩ = some v := fun j v hj => (HB8.out.cell (p := ⟨wr.heap.size, j, none⟩) (by simp)).trans (by rw [World.cell?_alloc_new]; exact hj)
          have y0 := hn 0 _ rfl
          have y1 := hn 1 _ rfl
          have y2 := hn 2 _ rfl
          clear hn x0 x1 x2
          go_wp2_with fail
          go_roundw
          case rel => exact ⟨_, _, _, _, _, _, _, _, _, _, _, _, _, _, _, _, _, _, _, _, _, _, _, _, _, _, _, _, _, _, _, _, _, _, _, _, _, _, _, _, _, _, ⟨9, by omega, rfl, bel_trans (HB6.out.alloc HB6.out.size _) HB8.out⟩, rfl⟩
          case measure => simp [RowKit.intOf]
        · have x0 := (HB6.out.cell (p := ⟨g2, 27, none⟩) (cell_lt (HC2.out 27 _ rfl))).trans (HC2.out 27 (.int .i64 9223372036854775807) rfl)
          have x1 := (HB6.out.cell (p := ⟨g2, 28, none⟩) (cell_lt (HC2.out 28 _ rfl))).trans (HC2.out 28 (.int .i64 0) rfl)
          have x2 := (HB6.out.cell (p := ⟨g2, 29, none⟩) (cell_lt (HC2.out 29 _ rfl))).trans (HC2.out 29 (.int .i64 41) rfl)
          go_wp2_with fail
          refine (add_ex 9223372036854775807 0 0 41 (by omega) (by omega) (by decide) (by decide) _).mono ?_
          rintro e w2 ⟨rfl, hb⟩
          have HB8 := Lib.hid hb
          clear hb
          have hn : ∀ (j : Nat) (v : Value), (#[.int .i64 9223372036854775807, .int .i64 0, .int .i64 41] : Array Value)[j]? = some v → w2.cell? ⟨wr.heap.size, j, none⟩ = some v := fun j v hj => (HB8.out.cell (p := ⟨wr.heap.size, j, none⟩) (by simp)).trans (by rw [World.cell?_alloc_new]; exact hj)
          have y0 := hn 0 _ rfl
          have y1 := hn 1 _ rfl
          have y2 := hn 2 _ rfl
          clear hn x0 x1 x2
          go_wp2_with fail
          go_roundw
          case rel => exact ⟨_, _, _, _, _, _, _, _, _, _, _, _, _, _, _, _, _, _, _, _, _, _, _, _, _, _, _, _, _, _, _, _, _, _, _, _, _, _, _, _, _, _, ⟨10, by omega, rfl, bel_trans (HB6.out.alloc HB6.out.size _) HB8.out⟩, rfl⟩
          case measure => simp [RowKit.intOf]
        · have HB7 := Lib.hid (bel_trans HB5.out HB6.out)
          clear HB6 HC2 HB5
          go_wp2_with fail
          refine (par_top _ (HQ.out.keep HB7.out) (HR.out.keep HB7.out)).mono ?_
          rintro e y7 ⟨rfl, hb⟩
          have HB8 := Lib.hid (bel_trans HB7.out hb)
          clear hb
          go_wp2_with fail
          refine (par_over _ (HQ.out.keep HB8.out) (HR.out.keep HB8.out)).mono ?_
          rintro e y8 ⟨rfl, hb⟩
          have HB9 := Lib.hid (bel_trans HB8.out hb)
          clear hb
          go_wp2_with fail
          refine (par_far _ (HQ.out.keep HB9.out) (HR.out.keep HB9.out)).mono ?_
          rintro e y9 ⟨rfl, hb⟩
          have HB10 := Lib.hid (bel_trans HB9.out hb)
          clear hb
          go_wp2_with fail
          refine (par_under _ (HQ.out.keep HB10.out) (HR.out.keep HB10.out)).mono ?_
          rintro e y10 ⟨rfl, hb⟩
          have HB11 := Lib.hid (bel_trans HB10.out hb)
          clear hb
          go_wp2_with fail
          refine (sub_any 0 (-9223372036854775808) (by omega) (by omega) _).mono ?_
          rintro e y11 ⟨rfl, hb⟩
          have HB12 := Lib.hid (bel_trans HB11.out hb)
          clear hb
          rw [show subV 0 (-9223372036854775808) = 0 by decide, show subE 0 (-9223372036854775808) = 41 by decide]
          go_wp2_with fail
          refine (feeG_any (a := -1) (b := 2000) (by omega) (by omega) _).mono ?_
          rintro e y12 ⟨rfl, hb⟩
          have HB13 := Lib.hid (bel_trans HB12.out hb)
          clear hb
          rw [show feeV (-1) 2000 = 0 by decide, show feeE (-1) 2000 = 1 by decide]
          go_wp2_with fail
          refine (feeG_any (a := 4611686018427387905) (b := 1001) (by omega) (by omega) _).mono ?_
          rintro e y13 ⟨rfl, hb⟩
          have HB14 := Lib.hid (bel_trans HB13.out hb)
          clear hb
          rw [show feeV 4611686018427387905 1001 = 0 by decide, show feeE 4611686018427387905 1001 = 1 by decide]
          go_wp2_with fail
          refine (feeG_any (a := 4611686018427387905) (b := 1000) (by omega) (by omega) _).mono ?_
          rintro e y14 ⟨rfl, hb⟩
          have HB15 := Lib.hid (bel_trans HB14.out hb)
          clear hb
          rw [show feeV 4611686018427387905 1000 = 0 by decide, show feeE 4611686018427387905 1000 = 41 by decide]
          go_wp2_with fail
          refine (feeG_any (a := 4611686018427387904) (b := 1000) (by omega) (by omega) _).mono ?_
          rintro e y15 ⟨rfl, hb⟩
          have HB16 := Lib.hid (bel_trans HB15.out hb)
          clear hb
          rw [show feeV 4611686018427387904 1000 = 461168601842738790 by decide, show feeE 4611686018427387904 1000 = 0 by decide]
          go_wp2_with fail
          refine (mul_any 4611686018427387904 3 (by omega) (by omega) _).mono ?_
          rintro e y' ⟨rfl, rfl⟩
          rw [show mulV 4611686018427387904 3 = 0 by decide, show mulE 4611686018427387904 3 = 41 by decide]
          go_wp2_with fail
          refine (mul_any 4611686018427387904 (-1) (by omega) (by omega) _).mono ?_
          rintro e y' ⟨rfl, rfl⟩
          rw [show mulV 4611686018427387904 (-1) = 0 by decide, show mulE 4611686018427387904 (-1) = 1 by decide]
          go_wp2_with fail
          refine (show_ex3 _ (HP.out.keep HB16.out)).mono ?_
          rintro e y17 ⟨rfl, hb⟩
          have HB17 := Lib.hid (bel_trans HB16.out hb)
          clear hb
          go_wp2_with fail
          go_ret
          exact ⟨rfl, HB17.out⟩
end Go.Proofs.YtikjnfghlohjkaaDoor
