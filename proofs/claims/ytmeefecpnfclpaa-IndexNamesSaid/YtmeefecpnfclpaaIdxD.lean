/- Walks over package index: Add, Copy. -/
import Derived.Test.YtmeefecpnfclpaaIdxC
import Derived.Deep.RegionWith
namespace Go.Proofs.Ytmeefecpnfclpaa
open Go.RowKit

/-- Add's error -/
def addE (N : Nat) (n : Int) : Nat := if ¬ lenOk n then 4 else if 1048576 ≤ N then 40 else 0

set_option maxHeartbeats 1000000 in
theorem add_form (b : Nat) (n : Int) (w : World) (h : ¬ lenOk n) :
    Calls Try.prog 24 #[.pointer (some ⟨b, 0, none⟩), .int .i64 n] w fun e' w' => e' = .returned (.tuple #[.int .i64 0, .int .i64 4]) ∧ w = w' := by
  have hs : szOf n = 0 := if_neg h
  have H := Lib.hid (size_any n w)
  rw [hs] at H
  go_enter Try.func24, Try.ntmps24
  go_wp2_with fail
  refine H.out.mono ?_
  rintro e' w1 ⟨rfl, rfl⟩
  go_wp2_with fail
  go_ret2
  exact ⟨rfl, rfl⟩
set_option maxHeartbeats 1000000 in
theorem add_large (b e f N gd : Nat) (v : Value) (n : Int) (w : World) (h : lenOk n) (hN : 1048576 ≤ N) (hb : w.heap[b]? = some (.cells (ixC e f N gd v) 64)) :
    Calls Try.prog 24 #[.pointer (some ⟨b, 0, none⟩), .int .i64 n] w fun e' w' => e' = .returned (.tuple #[.int .i64 0, .int .i64 40]) ∧ w = w' := by
  have hs : szOf n = 16 + n := if_pos h
  have H := Lib.hid (size_any n w)
  rw [hs] at H
  have d1 : ((16 + n : Int) == 0) = false := by rw [beq_eq_false_iff_ne]; unfold lenOk at h; omega
  obtain ⟨c0, c1, c2, c3, c4, fz⟩ := ix_cells hb
  have d2 : decide ((1048576 : Int) ≤ (N : Int)) = true := decide_eq_true (by omega)
  clear fz hb hs
  go_enter Try.func24, Try.ntmps24
  go_wp2_with fail
  refine H.out.mono ?_
  rintro e' w1 ⟨rfl, rfl⟩
  go_wp2_with fail
  go_ret2
  exact ⟨rfl, rfl⟩

set_option maxRecDepth 100000 in
set_option maxHeartbeats 2000000 in
theorem add_ok (b e f gd : Nat) (ps : List Nat) (n : Nat) (w : World) (h : lenOk n) (he : 0 < e) (hN : f + ps.length < 1048576) (hg : gd ≤ 1000000000) (hb : Ixr w b e f ps gd) :
    Calls Try.prog 24 #[.pointer (some ⟨b, 0, none⟩), .int .i64 n] w fun e' w' => e' = .returned (.tuple #[.int .i64 gd, .int .i64 0]) ∧ Ixr w' b e f (ps ++ [gd]) (gd + 16 + n) ∧ KeepX (fun i => i = b) w w' := by
  have hs : szOf n = 16 + n := if_pos h
  have hz := fun w => size_any n w
  simp only [hs] at hz
  have H := Lib.hid hz
  have d1 : ((16 + (n : Int)) == 0) = false := by rw [beq_eq_false_iff_ne]; omega
  obtain ⟨oa, cap, h1, h2, h3⟩ := hb
  obtain ⟨c0, c1, c2, c3, c4, fz⟩ := ix_cells h1
  have hm := Lib.hid (mark_any b e f gd gd ps w he (by omega) ⟨oa, cap, h1, h2, h3⟩)
  have d2 : decide ((1048576 : Int) ≤ ((f + ps.length : Nat) : Int)) = false := decide_eq_false (by omega)
  unfold lenOk at h
  clear fz h1 h2 h3 hs hz
  have hw : IntKind.i64.wrap ((gd : Int) + (16 + (n : Int))) = ((gd + 16 + n : Nat) : Int) := by rw [IntWalk.i64_in _ (by omega)]; omega
  have HW := Lib.hid hw
  clear hw
  generalize f + ps.length = N at *
  go_enter Try.func24, Try.ntmps24
  go_wp2_with fail
  refine (H.out _).mono ?_
  rintro e' w1 ⟨rfl, rfl⟩
  go_wp2_with fail
  refine hm.out.mono ?_
  rintro e' w1 ⟨rfl, k1, k2⟩
  obtain ⟨oa', cap', r1, r2, r3⟩ := k1
  obtain ⟨z0, z1, z2, z3, z4, zf⟩ := ix_cells r1
  have zf3 := zf 3
  have R1 := Lib.hid r1
  have R2 := Lib.hid r2
  have R3 := Lib.hid r3
  have K2 := Lib.hid k2
  clear r1 r2 r3 k2 zf c0 c1 c2 c3 c4
  go_wp2_with fail
  go_region_with (go_at_call 55; refine (H.out _).mono ?_; rintro e' w2 ⟨rfl, rfl⟩)
  all_goals (go_wp2_with fail)
  all_goals
    rw [HW.out]
    go_ret2
    refine ⟨rfl, ⟨oa', cap', ix_set3 (m := gd + 16 + n) R1.out, row_setCell (j := 3) R2.out R1.out (by decide) _, R3.out⟩, ?_⟩
    exact (K2.out.setCell (p := ⟨b, 3, none⟩) rfl _).drew

theorem add_any (b e f gd : Nat) (ps : List Nat) (n : Int) (w : World) (he : 0 < e) (hg : gd ≤ 1000000000) (hb : Ixr w b e f ps gd) :
    Calls Try.prog 24 #[.pointer (some ⟨b, 0, none⟩), .int .i64 n] w fun e' w' =>
      (addE (f + ps.length) n = 0 ∧ e' = .returned (.tuple #[.int .i64 gd, .int .i64 0]) ∧ Ixr w' b e f (ps ++ [gd]) (gd + 16 + n.toNat) ∧ KeepX (fun i => i = b) w w') ∨
      (addE (f + ps.length) n ≠ 0 ∧ e' = .returned (.tuple #[.int .i64 0, .int .i64 (addE (f + ps.length) n)]) ∧ w = w') := by
  unfold addE
  by_cases h1 : lenOk n
  · rw [if_neg (not_not_intro h1)]
    by_cases h2 : 1048576 ≤ f + ps.length
    · rw [if_pos h2]
      obtain ⟨oa, cap, k1, k2, k3⟩ := hb
      exact (add_large b e f _ gd _ n w h1 h2 k1).mono fun e' w' ⟨h, k⟩ => .inr ⟨by omega, h, k⟩
    · rw [if_neg h2]
      obtain ⟨m, rfl⟩ : ∃ m : Nat, n = m := ⟨n.toNat, by unfold lenOk at h1; omega⟩
      rw [Int.toNat_natCast]
      exact (add_ok b e f gd ps m w h1 he (by omega) hg hb).mono fun e' w' ⟨h, k, l⟩ => .inl ⟨rfl, h, k, l⟩
  · rw [if_pos h1]
    exact (add_form b n w h1).mono fun e' w' ⟨h, k⟩ => .inr ⟨by omega, h, k⟩

set_option maxRecDepth 100000 in
set_option maxHeartbeats 2000000 in
theorem copy_any (b e f gd : Nat) (ps : List Nat) (w : World) (he : 0 < e) (hn : ps.length ≤ 1000000000) (h : Ixr w b e f ps gd) :
    Calls Try.prog 26 #[.pointer (some ⟨b, 0, none⟩)] w fun e' w' => e' = .returned (.pointer (some ⟨w.heap.size, 0, none⟩)) ∧ Ixr w' w.heap.size e f ps gd ∧ Below w.heap.size w w' := by
  obtain ⟨oa, cap, h1, h2, h3⟩ := h
  obtain ⟨c0, c1, c2, c3, c4, fz⟩ := ix_cells h1
  have hlt := (Array.getElem?_eq_some_iff.1 h1).1
  have hc := cnt_le e ps.length he
  have hcl := fun w' hw' => clone_any (cntM e ps.length) cap oa (marksL e f ps) w' (by omega) hw' h3
  obtain ⟨N, hN⟩ : ∃ N, f + ps.length = N := ⟨_, rfl⟩
  obtain ⟨K, hK⟩ : ∃ K, cntM e ps.length = K := ⟨_, rfl⟩
  rw [hN] at c2 h1
  rw [hK] at c4 h1 h2 hcl
  have HC := Lib.hid hcl
  have H1 := Lib.hid h1
  have H2 := Lib.hid h2
  have EN := Lib.hid hN
  have EK := Lib.hid hK
  clear fz h1 h2 h3 hc hcl hN hK
  go_enter Try.func26, Try.ntmps26
  go_wp2_with fail
  refine (HC.out _ (H2.out.alloc _)).mono ?_
  rintro e' w1 ⟨oa', cap', rfl, k1, k2, k3⟩
  have hblk : w1.heap[w.heap.size]? = some (.cells (ixC e f N gd (.slice oa K cap)) 64) := (k3.block _ (by simp)).trans (heap_alloc_new _ _)
  obtain ⟨z0, z1, z2, z3, z4, zf⟩ := ix_cells hblk
  have zf4 := zf 4
  have HB := Lib.hid hblk
  have K1 := Lib.hid k1
  have K2 := Lib.hid k2
  have K3 := Lib.hid (((Below.refl _ _).alloc (Nat.le_refl _) (.cells (ixC e f N gd (.slice oa K cap)) 64)).trans (k3.mono (by simp)) : Below w.heap.size w w1)
  clear hblk k1 k2 k3 zf
  go_wp2_with fail
  go_ret
  refine ⟨rfl, ⟨oa', cap', by rw [EN.out, EK.out]; exact ix_set4 HB.out, by rw [EK.out]; exact row_setCell (j := 4) (ownsRow_base K1.out) HB.out (by decide) _, by rw [EK.out]; exact K2.out⟩, K3.out.setCell (p := ⟨w.heap.size, 4, none⟩) (Nat.le_refl _) _⟩

end Go.Proofs.Ytmeefecpnfclpaa
