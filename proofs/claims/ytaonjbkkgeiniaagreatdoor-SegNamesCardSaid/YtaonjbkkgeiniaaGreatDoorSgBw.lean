/- A scan of any bytes, told in letters, with what is joined again of it. -/
import Derived.Test.YtaonjbkkgeiniaaGreatDoorSgTx
import Derived.Test.YtaonjbkkgeiniaaGreatDoorSgBk
import Derived.Test.YtaonjbkkgeiniaaGreatDoorSegScansW
namespace Go.Proofs.YtaonjbkkgeiniaaGreatDoor
open Go.RowKit

theorem size_sum (z : List ByteArray) : sizeF (paysL z) ≤ 16 * sumZ z := by
  induction z with
  | nil => exact Nat.le_refl _
  | cons a z ih =>
    show 16 + a.data.toList.length + sizeF (paysL z) ≤ 16 * (a.size + 1 + sumZ z)
    have : a.data.toList.length = a.size := rfl
    omega
/-- a scan, told in letters -/
def ScanTo (s : ByteArray) (f : Int) (n : Nat) (G : Int) (b : Bool) (zs : List ByteArray) : Prop :=
  ∃ X : List Value, (∀ i, i < n → X[i * 3 + 1]? = some (.string (zs.getD i ByteArray.empty))) ∧
    ∀ w, Calls Tryz.prog 26 #[.string s] w fun e w' => ∃ oa cap, e = .returned (.tuple #[.agg #[.int .i64 f, .slice oa n cap, .int .i64 G, .bool b], .int .i64 0]) ∧ w'.ownsRow w.heap.size 60 3 (.slice oa n cap) n X ∧ Below w.heap.size w w'
theorem scanTo_of {s : ByteArray} {f : Nat} {ls : List (List UInt8)} (h : ScanIs s.data.toList f ls) (hk : okF f ls) (hs : s.size ≤ 1000000) :
    ScanTo s f ls.length ((16 + sizeF ls : Nat) : Int) (decide (16 + sizeF ls = s.size)) (ls.map bs) :=
  ⟨rowF f 16 ls, fun i hi => rowF_text ls f 16 i hi hk, fun w => scan_is s f ls h hs w⟩
theorem ba_cut (s : ByteArray) (k : Nat) (t : ByteArray) (h : s.data.toList.take k = t.data.toList) : s.extract 0 k = t := by
  apply ba_ext
  rw [← h]
  simp
/-- the two ways of a scan -/
theorem scan_ways (s : ByteArray) (hs : s.size ≤ 20000) :
    (∃ E : Int, E ≠ 0 ∧ ∀ w, Calls Tryz.prog 26 #[.string s] w fun e w' => e = .returned (.tuple #[.agg #[.int .i64 0, .slice none 0 0, .int .i64 0, .bool false], .int .i64 E]) ∧ Below w.heap.size w w') ∨
    ∃ (f n G : Nat) (b : Bool) (zs : List ByteArray) (T : ByteArray), (n ≤ 20000 ∧ zs.length = n ∧ ∀ p ∈ zs, p.size ≤ 20000) ∧ (16 ≤ G ∧ G ≤ s.size) ∧ ((G : Int) == (s.size : Int)) = b ∧ s.extract 0 G = T ∧
      (∀ w oa cap, StrsIn w oa n cap zs → Calls Tryz.prog 16 #[.int .i64 f, .slice oa n cap] w fun e w' => e = .returned (.tuple #[.string T, .int .i64 0]) ∧ Below w.heap.size w w') ∧ ScanTo s f n G b zs := by
  by_cases h : hdE s.data.toList = 0
  case neg => exact .inl ⟨hdE s.data.toList, by omega, fun w => sscan_bad s w h⟩
  obtain ⟨ls, h1, h2, h3, h4⟩ := scan_all h (by show s.size ≤ _; omega)
  obtain ⟨_, _, j3, _, j5⟩ := jn_ok h2
  have h3' : 16 + sizeF ls ≤ s.size := h3
  have hcnt := ok_count ls _ j5
  refine .inr ⟨hdF s.data.toList, ls.length, 16 + sizeF ls, _, ls.map bs, bs (hdrL (hdF s.data.toList) ++ joinF (hdF s.data.toList) ls), ⟨by omega, by simp, fun p hp => ?_⟩, ⟨by omega, h3'⟩, ?_, ba_cut _ _ _ (by rw [h4, bs_data]), fun w oa cap hz => ?_, scanTo_of h1 j5 (by omega)⟩
  · obtain ⟨l, hl, rfl⟩ := List.mem_map.1 hp
    have := (j3 l hl).2
    rw [size_bs]
    omega
  · rw [Bool.eq_iff_iff, beq_iff_eq, decide_eq_true_iff]; omega
  · have := join_any (hdF s.data.toList) (ls.map bs) w hz
    rw [pays_bs] at this
    unfold jnL at this
    rw [h2, if_pos rfl, Int.toNat_natCast] at this
    exact this
/-- the box of what was scanned -/
def sbR (w0 : World) (gy : Nat) (f G : Int) (oa : Option Addr) (n ca : Nat) (b : Bool) (w' : World) : Prop :=
  Below w0.heap.size w0 w' ∧ w'.heap[gy]? = some (.cells #[.int .i64 f, .slice oa n ca, .int .i64 G, .bool b] 46)
theorem sbR_cells {w0 : World} {gy : Nat} {f G : Int} {oa : Option Addr} {n ca : Nat} {b : Bool} {w' : World} (h : sbR w0 gy f G oa n ca b w') :
    w'.cell? ⟨gy, 0, none⟩ = some (.int .i64 f) ∧ w'.cell? ⟨gy, 1, none⟩ = some (.slice oa n ca) ∧ w'.cell? ⟨gy, 2, none⟩ = some (.int .i64 G) ∧ w'.cell? ⟨gy, 3, none⟩ = some (.bool b) := by
  obtain ⟨_, h1⟩ := h
  exact ⟨by rw [cell_of_row _ _ _ _ _ _ h1]; rfl, by rw [cell_of_row _ _ _ _ _ _ h1]; rfl, by rw [cell_of_row _ _ _ _ _ _ h1]; rfl, by rw [cell_of_row _ _ _ _ _ _ h1]; rfl⟩
theorem sbS_of {w0 : World} {gy : Nat} {f G : Int} {oa : Option Addr} {n ca : Nat} {b : Bool} {w' : World} (h : sbR w0 gy f G oa n ca b w') :
    (w'.cell? ⟨gy, 0, none⟩ = some (.int .i64 f) ∧ w'.cell? ⟨gy, 1, none⟩ = some (.slice oa n ca)) ∧ sbR w0 gy f G oa n ca b w' :=
  ⟨⟨(sbR_cells h).1, (sbR_cells h).2.1⟩, h⟩
theorem sbR_keep {w0 : World} {gy : Nat} {f G : Int} {oa : Option Addr} {n ca : Nat} {b : Bool} {w' w2 : World} (h : sbR w0 gy f G oa n ca b w') (hb : Below w'.heap.size w' w2) : sbR w0 gy f G oa n ca b w2 :=
  ⟨h.1.trans (hb.mono h.1.size), (hb.block _ (Array.getElem?_eq_some_iff.1 h.2).1).trans h.2⟩
theorem sbR_drew {w0 : World} {gy : Nat} {f G : Int} {oa : Option Addr} {n ca : Nat} {b : Bool} {w' : World} (h : sbR w0 gy f G oa n ca b w') : sbR w0 gy f G oa n ca b w'.drew := ⟨bel_drew h.1, h.2⟩
theorem payloads_is (n : Nat) (oa : Option Addr) (ca : Nat) (X : List Value) (zs : List ByteArray) (w : World) (B : Nat) (hn : n ≤ 20000) (hz : zs.length = n) (hs : ∀ p ∈ zs, p.size ≤ 20000)
    (hX : ∀ i, i < n → X[i * 3 + 1]? = some (.string (zs.getD i ByteArray.empty))) (hx : w.ownsRow B 60 3 (.slice oa n ca) n X) :
    Calls Tryz.prog 34 #[.slice oa n ca] w fun e w' => ∃ op cp, e = .returned (.slice op n cp) ∧ StrsIn w' op n cp zs ∧ Below w.heap.size w w' := by
  refine (payloads_any n oa ca X zs w B (by omega) hz hX hx).mono ?_
  rintro e w' ⟨v, rfl, ho, hb⟩
  obtain ⟨op, cp, rfl, hst⟩ := strs_of_own ho (by omega) (fun p hp => by have := hs p hp; omega)
  exact ⟨op, cp, rfl, hst, hb⟩
end Go.Proofs.YtaonjbkkgeiniaaGreatDoor
