/- The argument []Wrap, opened; the variable errors.errorType, out of a row's condition. -/
import Derived.Test.YtabjpnggihginaaDoorFltI
import Derived.Test.YtabjpnggihginaaDoorRows
import Derived.Deep.Slices
import Derived.ChangeSame
import Derived.LaidHandle
import Derived.LaidLaws
import Derived.LaidMore
import Derived.ProofKit
namespace Go.Proofs.YtabjpnggihginaaDoor
open Go.RowKit Go.Deep Go.ChangeShapes Go.WideShapes

instance : Inhabited Wr := ⟨⟨⟨#[]⟩, ⟨#[]⟩, 0⟩⟩
section
variable {H : Type} {enc : TypeId × Value → H} {w : World} {base : Nat} {spare : Nat → Bool} {held : Bool}
theorem i64_of_wf {n : Int} (h : (Lit.int .i64 n).wf = true) : -9223372036854775808 ≤ n ∧ n ≤ 9223372036854775807 := by
  simp only [Lit.wf, IntKind.min, IntKind.max, IntKind.signed, IntKind.bits, Bool.and_eq_true, decide_eq_true_eq, if_true] at h
  omega
theorem three {α : Type} {l : List α} (h : l.length = 3) : ∃ a b c, l = [a, b, c] := by
  cases l with
  | nil => cases h
  | cons a l => cases l with
    | nil => cases h
    | cons b l => cases l with
      | nil => cases h
      | cons c l => cases l with
        | nil => exact ⟨a, b, c, rfl⟩
        | cons d l => simp at h
theorem add_off (b o j : Nat) : (⟨b, o, none⟩ : Addr).add j = ⟨b, o + j, none⟩ := by unfold Addr.add; split <;> simp_all
theorem open_wrs {fuel : Nat} {cs : List Value} {x : DataW H × List MemPlace} (h : DataW.trod enc Tryd.prog w base spare held fuel 22 cs = some x) :
    ∃ (a : Option Addr) (len cap : Nat) (z : List Wr), cs = [.slice a len cap] ∧ WrsIn w a len cap z := by
  have c9 : Tryd.prog.cellsOf 9 = 1 := by kernel_rfl
  have c2 : Tryd.prog.cellsOf 2 = 1 := by kernel_rfl
  have ce : Tryd.prog.cellsOf 49 = 3 := by kernel_rfl
  rcases open_slice Tryd.underlying22 h with ⟨rfl, _⟩ | ⟨a, len, cap, m, n, D, Pl, rfl, hb, hl, hm, hmm, _, hx⟩
  · exact ⟨none, 0, 0, [], rfl, rfl, Nat.le_refl _, Nat.zero_le _, (fun _ h => by cases h), .inl rfl⟩
  · have hlm : len ≤ m := by rw [hmm]; split <;> omega
    rw [ce] at hx
    have each : ∀ i, i < len → ∃ q : Wr, w.cell? (a.add (i * 3)) = some (.string q.op) ∧ w.cell? (a.add (i * 3 + 1)) = some (.string q.nm) ∧ w.cell? (a.add (i * 3 + 2)) = some (.int .i64 q.pl) ∧ -9223372036854775808 ≤ q.pl ∧ q.pl ≤ 9223372036854775807 := by
      intro i hi
      obtain ⟨cs', h1, h2⟩ := hx i (by omega)
      obtain ⟨_, hlen, hcell⟩ := World.cells?_some h1
      obtain ⟨xs, k, hk, hxy, _, hxl, hf⟩ := DataW.trod_struct Tryd.underlying49 h2
      obtain ⟨v0, v1, v2, rfl⟩ := three hlen
      obtain ⟨y0, y1, y2, rfl⟩ := three (show xs.length = 3 from hxl)
      have g0 := hf 0 _ rfl
      have g1 := hf 1 _ rfl
      have g2 := hf 2 _ rfl
      simp [c9, c2] at g0 g1 g2
      obtain ⟨s0, e0, _, _⟩ := DataW.trod_string Tryd.underlying9 g0
      obtain ⟨s1, e1, _, _⟩ := DataW.trod_string Tryd.underlying9 g1
      obtain ⟨z2, e2, _, hwf⟩ := DataW.trod_int Tryd.underlying2 g2
      simp at e0 e1 e2
      subst e0; subst e1; subst e2
      have i0 := hcell 0 (by omega)
      have i1 := hcell 1 (by omega)
      have i2 := hcell 2 (by omega)
      rw [add_add] at i0 i1 i2
      have hr : -9223372036854775808 ≤ z2 ∧ z2 ≤ 9223372036854775807 := i64_of_wf hwf
      exact ⟨⟨s0, s1, z2⟩, by simpa using i0, by simpa using i1, by simpa using i2, hr⟩
    obtain ⟨q, hq⟩ := choose_lt each
    refine ⟨some a, len, cap, (List.range len).map q, rfl, by simp, hl, hm, (fun x hx => by
      obtain ⟨i, hi, rfl⟩ := List.mem_map.1 hx
      exact (hq i (List.mem_range.1 hi)).2.2.2), ?_⟩
    by_cases h0 : len = 0
    · exact .inl h0
    · obtain ⟨b, off, spot⟩ := a
      have hspot : spot = none := by simpa [Addr.add] using World.cell?_spot (hq 0 (by omega)).1
      subst hspot
      refine .inr ⟨b, off, rfl, ?_, ?_⟩
      · have := (hq 0 (by omega)).1
        rw [add_off] at this
        exact World.block_lt_of_cell? _ _ this
      · intro j x hj
        rw [List.getElem?_map] at hj
        have hjl : j < len := by
          have := (List.getElem?_eq_some_iff.1 (Option.map_eq_some_iff.1 hj).choose_spec.1).1
          simpa using this
        rw [List.getElem?_range hjl] at hj
        simp at hj
        subst hj
        have h3 := hq j hjl
        rw [add_off, add_off, add_off] at h3
        exact ⟨h3.1, by rw [Nat.add_assoc]; exact h3.2.1, by rw [Nat.add_assoc]; exact h3.2.2.1⟩
end


theorem rtName : (Tryd.prog.cutTypes.find? (·.1 == "internal/reflectlite.rtype")).map (·.2) = some 88 := by kernel_rfl
theorem oneRow : ((List.range 146).filter fun t => Tryd.prog.rowNamed t [101, 114, 114, 111, 114]) = [27] := by kernel_rfl
theorem sizeT : Tryd.prog.types.size = 146 := by kernel_rfl
theorem gErr : Tryd.prog.globalNamed "errors.errorType" = some 1 := by kernel_rfl
theorem handle_in {P : Program} {L : List (String × DataW Unit)} {W : World} (h : laidMetH P L W) {x : String × DataW Unit} (hx : x ∈ L) (hn : x.2.handleName?.isSome = true) :
    ∃ ls, x ∈ ls ∧ handlesMet P ls W := by
  unfold laidMetH at h
  have hm : x ∈ L.filter fun x => x.2.handleName?.isSome := List.mem_filter.2 ⟨hx, hn⟩
  cases hf : L.filter fun x => x.2.handleName?.isSome with
  | nil => rw [hf] at hm; cases hm
  | cons y ys => rw [hf] at h hm; exact ⟨_, hm, h.2⟩
/-- WHAT THE CONDITION GIVES A WALK: the variable's one cell. -/
theorem errT_of_laid {L : List (String × DataW Unit)} {W : World} (hm : ("errors.errorType", (Rows.laid_errors_errorType : DataW Unit)) ∈ L) (h : laidMetH Tryd.prog L W) : ErrT W := by
  obtain ⟨ls, hx, h'⟩ := handle_in h hm rfl
  obtain ⟨name, u, ty, e1, e2, e3, e4, e5⟩ := h' _ hx
  have en : name = [101, 114, 114, 111, 114] := (Option.some.inj e1).symm
  subst en
  obtain rfl := Option.some.inj (rtName.symm.trans e2)
  have hmm : ty ∈ (List.range 146).filter fun t => Tryd.prog.rowNamed t [101, 114, 114, 111, 114] := List.mem_filter.2 ⟨List.mem_range.2 (by rw [← sizeT]; exact e3), e4⟩
  rw [oneRow] at hmm
  obtain rfl := List.mem_singleton.1 hmm
  have hh : typeHandle Tryd.prog 27 = hd 27 := by kernel_rfl
  rw [hh] at e5
  simpa [ErrT] using World.var?_cell gErr e5 0
end Go.Proofs.YtabjpnggihginaaDoor
