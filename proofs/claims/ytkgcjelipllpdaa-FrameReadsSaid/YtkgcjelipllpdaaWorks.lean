/- souklaw10: made, works. -/
import Derived.Test.YtkgcjelipllpdaaScan2
namespace Go.Proofs.Ytkgcjelipllpdaa
open Go.RowKit

set_option maxHeartbeats 400000 in
theorem made_any (seq : Int) (s : ByteArray) (w : World) (hs : s.size ≤ 1000000) :
    Calls Try.prog 17 #[.int .i64 seq, .string s] w
      fun e w' => e = .returned (.string (mkS seq s)) ∧ Below w.heap.size w w' := by
  go_enter Try.func17, Try.ntmps17
  go_wp2_with fail
  refine (make_any seq s w hs).mono ?_
  rintro e w' ⟨rfl, hb⟩
  go_wp2_with fail
  go_ret
  exact ⟨rfl, hb⟩

def wa : Array UInt8 := #[0, 0, 0, 2, 0, 0, 0, 0, 0, 0, 0, 7, 17, 140, 194, 83, 97, 98]
def wb : Array UInt8 := #[0, 0, 0, 2, 0, 0, 0, 0, 0, 0, 0, 8, 44, 203, 158, 88, 97, 98]
theorem wa_eq : mkS 7 ⟨#[97, 98]⟩ = ⟨wa⟩ := by kernel_rfl
theorem wb_eq : mkS 8 ⟨#[97, 98]⟩ = ⟨wb⟩ := by kernel_rfl
def wl : List UInt8 := [0, 0, 0, 2, 0, 0, 0, 0, 0, 0, 0, 7, 17, 140, 194, 83, 97, 98, 0, 0, 0, 2, 0, 0, 0, 0, 0, 0, 0, 8, 44, 203, 158, 88, 97]
theorem w_scan7 : scanL wl 0 7 = [0] := by kernel_rfl
theorem w_good7 : scanG wl 0 7 = 18 := by kernel_rfl
theorem w_scan8 : scanL wl 0 8 = [] := by kernel_rfl
theorem w_good8 : scanG wl 0 8 = 0 := by kernel_rfl
theorem w_q : fQ wl 0 = 7 := by kernel_rfl
theorem w_p : bs (sl wl (0 + 16) (fN wl 0)) = ⟨#[97, 98]⟩ := by kernel_rfl

/-- a scan whose outcome is known -/
theorem scan_to (s : ByteArray) (l : List UInt8) (a f : Int) (xs : List Nat) (g : Nat) (w : World) (hs : s.size ≤ 1000000) (hl : s.data.toList = l) (hx : scanL l a f = xs) (hg : scanG l a f = g) :
    Calls Try.prog 12 #[.string s, .int .i64 a, .int .i64 f] w
      fun e w' => ∃ oa cap, e = .returned (.tuple #[.slice oa xs.length cap, .int .i64 g]) ∧ w'.ownsRow w.heap.size 24 3 (.slice oa xs.length cap) xs.length (frRow s xs) ∧ Below w.heap.size w w' := by
  refine (scan_any s a f w hs).mono ?_
  rintro e w' ⟨v, rfl, ho, hb⟩
  rw [hl, hg, hx] at *
  rcases ho.2 with ⟨rfl, h0⟩ | ⟨g', c, cur, rfl, _⟩
  · exact ⟨none, 0, by rw [h0], by rw [h0] at ho ⊢; exact ho, hb⟩
  · exact ⟨_, _, rfl, ho, hb⟩
/-- the cells of a row of one frame -/
theorem row_one {w : World} {B cap : Nat} {oa : Option Addr} {q : Nat} {p : ByteArray} {a : Int} (h : w.ownsRow B 24 3 (.slice oa 1 cap) 1 (frCells q p a).toList) :
    ∃ g, oa = some ⟨g, 0, none⟩ ∧ g < w.heap.size ∧ w.cell? ⟨g, 0, none⟩ = some (.int .i64 q) ∧ w.cell? ⟨g, 1, none⟩ = some (.string p) ∧ w.cell? ⟨g, 2, none⟩ = some (.int .i64 a) := by
  rcases h.2 with ⟨_, h0⟩ | ⟨g, c, cur, hv, hB, hcur, _⟩
  · cases h0
  · cases hv
    have add : ∀ j, (⟨g, 0, none⟩ : Addr).add j = ⟨g, j, none⟩ := fun j => by unfold Addr.add; split <;> simp_all
    have c0 := h.cells (g := g) rfl 0 (.int .i64 q) rfl
    have c1 := h.cells (g := g) rfl 1 (.string p) rfl
    have c2 := h.cells (g := g) rfl 2 (.int .i64 a) rfl
    rw [add] at c0 c1 c2
    exact ⟨g, rfl, (Array.getElem?_eq_some_iff.1 hcur).1, c0, c1, c2⟩

set_option maxHeartbeats 1000000 in
theorem works_any (w : World) :
    Calls Try.prog 9 #[] w fun e w' => e = .returned (.bool true) ∧ Below w.heap.size w w' := by
  obtain ⟨A, eA⟩ : ∃ A : ByteArray, A = ⟨wa⟩ := ⟨_, rfl⟩
  obtain ⟨B, eB⟩ : ∃ B : ByteArray, B = ⟨wb⟩ := ⟨_, rfl⟩
  have m7 := fun w => made_any 7 ⟨#[97, 98]⟩ w (by decide)
  have m8 := fun w => made_any 8 ⟨#[97, 98]⟩ w (by decide)
  rw [wa_eq, ← eA] at m7
  rw [wb_eq, ← eB] at m8
  have hA : A.size = 18 := by rw [eA]; rfl
  have hB : B.size = 18 := by rw [eB]; rfl
  have t1 : (A.extract 0 12).toList = [0, 0, 0, 2, 0, 0, 0, 0, 0, 0, 0, 7] := by rw [eA]; kernel_rfl
  have t2 : (A.extract 16 18).toList = [97, 98] := by rw [eA]; kernel_rfl
  have hX : (A ++ B.extract 0 17).data.toList = wl := by rw [eA, eB]; kernel_rfl
  have hXs : (A ++ B.extract 0 17).size = 35 := by rw [← len_data, hX]; rfl
  obtain ⟨X, eX⟩ : ∃ X, A ++ B.extract 0 17 = X := ⟨_, rfl⟩
  rw [eX] at hX hXs
  have S7 := Lib.hid (fun w => scan_to X wl 0 7 [0] 18 w (by omega) hX w_scan7 w_good7)
  have S8 := Lib.hid (fun w => scan_to X wl 0 8 [] 0 w (by omega) hX w_scan8 w_good8)
  have hrow : frRow X [0] = (frCells 7 ⟨#[97, 98]⟩ 0).toList := by
    show (frCells (fQ X.data.toList 0) (bs (sl X.data.toList (0 + 16) (fN X.data.toList 0))) (0 : Nat)).toList ++ [] = _
    rw [hX, w_q, w_p]; rfl
  have HR := Lib.hid hrow
  have HX := Lib.hid hX
  clear hX hrow hXs
  have M7 := Lib.hid m7
  have M8 := Lib.hid m8
  have EA := Lib.hid eA
  have EB := Lib.hid eB
  clear m7 m8 eA eB
  go_enter Try.func9, Try.ntmps9
  go_wp2_with fail
  refine (M7.out w).mono ?_
  rintro e w1 ⟨rfl, hb1⟩
  go_wp2_with fail
  refine (M8.out w1).mono ?_
  rintro e w2 ⟨rfl, hb2⟩
  go_wp2_with fail
  refine (S7.out w2).mono ?_
  rintro e w3 ⟨oa, cap, rfl, ho, hb3⟩
  rw [HR.out] at ho
  obtain ⟨g, rfl, hg, c0, c1, c2⟩ := row_one ho
  clear ho
  go_wp2_with fail
  refine (S8.out w3).mono ?_
  rintro e w4 ⟨oa2, cap2, rfl, ho2, hb4⟩
  clear ho2
  have d0 : w4.cell? ⟨g, 0, none⟩ = some (.int .i64 7) := (hb4.cell (p := ⟨g, 0, none⟩) hg).trans c0
  have d1 : w4.cell? ⟨g, 1, none⟩ = some (.string ⟨#[97, 98]⟩) := (hb4.cell (p := ⟨g, 1, none⟩) hg).trans c1
  have d2 : w4.cell? ⟨g, 2, none⟩ = some (.int .i64 0) := (hb4.cell (p := ⟨g, 2, none⟩) hg).trans c2
  clear c0 c1 c2 t1 t2
  have B4 := Lib.hid (bel_trans (bel_trans (bel_trans hb1 hb2) hb3) hb4)
  clear hb1 hb2 hb3 hb4 S7 S8 M7 M8
  go_wp2_with fail
  go_ret
  exact ⟨rfl, B4.out⟩

end Go.Proofs.Ytkgcjelipllpdaa
