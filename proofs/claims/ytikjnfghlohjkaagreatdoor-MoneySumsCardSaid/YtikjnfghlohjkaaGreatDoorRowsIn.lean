/- What a walk is told of slices of integers and of strings that came in. -/
import Derived.WalkKit
import Derived.ChangeShapes
import Derived.SliceStrings
import Derived.SizedLaws
namespace Go.Proofs.YtikjnfghlohjkaaGreatDoor
open Go.RowKit

/-- a slice of integers that came in: its elements -/
def IntsIn (k : IntKind) (w : World) (a : Option Addr) (len cap : Nat) (l : List Int) : Prop :=
  l.length = len ∧ len ≤ cap ∧ cap ≤ maxLen ∧ (∀ n ∈ l, (Lit.int k n).wf = true) ∧
    (len = 0 ∨ ∃ b off, a = some ⟨b, off, none⟩ ∧ b < w.heap.size ∧ ∀ j, j < len → w.cell? ⟨b, off + j, none⟩ = some (.int k (l.getD j 0)))
/-- a slice of strings that came in: its elements -/
def StrsIn (w : World) (a : Option Addr) (len cap : Nat) (l : List ByteArray) : Prop :=
  l.length = len ∧ len ≤ cap ∧ len ≤ 8796093021952 ∧ (∀ s ∈ l, s.size ≤ 140737488351232) ∧
    (len = 0 ∨ ∃ b off, a = some ⟨b, off, none⟩ ∧ b < w.heap.size ∧ ∀ j, j < len → w.cell? ⟨b, off + j, none⟩ = some (.string (l.getD j ByteArray.empty)))

theorem cell_lt {w : World} {b off : Nat} {v : Value} (h : w.cell? ⟨b, off, none⟩ = some v) : b < w.heap.size := by
  refine Decidable.byContradiction fun hn => ?_
  have : w.heap[b]? = none := Array.getElem?_eq_none (by omega)
  simp [World.cell?, this] at h

theorem row_at {α : Type} {w : World} {a : Addr} {f : Nat → α} {g : α → Value} {n : Nat} (h : ∀ i, i < n → w.cell? (a.add i) = some (g (f i))) (hp : 0 < n) :
    ∃ b off, a = ⟨b, off, none⟩ ∧ b < w.heap.size ∧ ∀ j, j < n → w.cell? ⟨b, off + j, none⟩ = some (g (f j)) := by
  obtain ⟨b, off, spot⟩ := a
  have hspot : spot = none := by simpa [Addr.add] using World.cell?_spot (h 0 hp)
  subst hspot
  have hc : ∀ j, j < n → w.cell? ⟨b, off + j, none⟩ = some (g (f j)) := fun j hj => by rw [← Go.WideShapes.add_plain]; exact h j hj
  exact ⟨b, off, rfl, cell_lt (hc 0 hp), hc⟩

theorem intsIn_nil (k : IntKind) (w : World) : IntsIn k w none 0 0 [] := ⟨rfl, Nat.le_refl _, Nat.zero_le _, (fun _ h => by cases h), .inl rfl⟩
theorem strsIn_nil (w : World) : StrsIn w none 0 0 [] := ⟨rfl, Nat.le_refl _, Nat.zero_le _, (fun _ h => by cases h), .inl rfl⟩

theorem intsIn_of {k : IntKind} {w : World} {a : Addr} {len cap : Nat} {zs : List Int} (hl : len ≤ cap) (hm : cap ≤ maxLen) (hz : len ≤ zs.length) (hc : ∀ i, i < zs.length → w.cell? (a.add i) = some (.int k (zs.getD i 0))) (hw : ∀ n ∈ zs, (Lit.int k n).wf = true) :
    IntsIn k w (some a) len cap (zs.take len) := by
  refine ⟨by rw [List.length_take]; omega, hl, hm, fun n hn => hw n (List.mem_of_mem_take hn), ?_⟩
  by_cases h0 : len = 0
  · exact .inl h0
  · obtain ⟨b, off, rfl, hb, h⟩ := row_at (f := fun i => zs.getD i 0) (g := fun n => .int k n) (n := zs.length) hc (by omega)
    refine .inr ⟨b, off, rfl, hb, fun j hj => ?_⟩
    rw [h j (by omega)]
    simp only [List.getD_eq_getElem?_getD, List.getElem?_take, if_pos hj]
theorem strsIn_of {w : World} {a : Addr} {len cap : Nat} {zs : List ByteArray} (hl : len ≤ cap) (hm : cap ≤ 8796093021952) (hz : len ≤ zs.length) (hc : ∀ i, i < zs.length → w.cell? (a.add i) = some (.string (zs.getD i ByteArray.empty))) (hw : ∀ s ∈ zs.take len, s.size ≤ 140737488351232) :
    StrsIn w (some a) len cap (zs.take len) := by
  refine ⟨by rw [List.length_take]; omega, hl, by omega, hw, ?_⟩
  by_cases h0 : len = 0
  · exact .inl h0
  · obtain ⟨b, off, rfl, hb, h⟩ := row_at (f := fun i => zs.getD i ByteArray.empty) (g := fun n => .string n) (n := zs.length) hc (by omega)
    refine .inr ⟨b, off, rfl, hb, fun j hj => ?_⟩
    rw [h j (by omega)]
    simp only [List.getD_eq_getElem?_getD, List.getElem?_take, if_pos hj]

open Go Go.ChangeShapes in
theorem weightsAll_in {H : Type} {P : Program} {e : TypeId} : ∀ {l : List (DataW H)} {d : DataW H}, d ∈ l → ∀ n ∈ d.weights P e, n ∈ DataW.weightsAll P e l
  | d' :: r, d, hd, n, hn => by
    simp only [DataW.weightsAll, List.mem_append]
    rcases List.mem_cons.1 hd with rfl | h
    · exact Or.inl hn
    · exact Or.inr (weightsAll_in h n hn)
/-- the form's own reach, of strings in a slice -/
theorem sized_strs {H : Type} {P : Program} {ts : List TypeId} {ds : List (DataW H)} (h : (DataW.weightsEach P ts ds).all (· ≤ reachBytes) = true) {j : Nat} {t e : TypeId} {l : List ByteArray} {sp : List (DataW H)}
    (ht : ts[j]? = some t) (hd : ds[j]? = some (.slice (Go.ChangeShapes.strs l) sp)) (hu : P.underlying t = some (.slice e)) : ∀ s ∈ l, s.size ≤ 140737488351232 := by
  intro s hs
  refine of_decide_eq_true (List.all_eq_true.1 h _ (DataW.weights_mem_each ht hd _ ?_))
  simp only [DataW.weights, hu, List.mem_cons, List.mem_append]
  refine Or.inr (Or.inl (weightsAll_in (d := .lit (.string s.data.toList)) (List.mem_map.2 ⟨s, hs, rfl⟩) _ ?_))
  simp [DataW.weights]
theorem sized_cap {H : Type} {P : Program} {ts : List TypeId} {ds : List (DataW H)} (h : (DataW.weightsEach P ts ds).all (· ≤ reachBytes) = true) {j : Nat} {t e : TypeId} {es sp : List (DataW H)} (n : Nat) (hb : P.bytesOf e = n)
    (ht : ts[j]? = some t) (hd : ds[j]? = some (.slice es sp)) (hu : P.underlying t = some (.slice e)) : (es.length + sp.length) * n ≤ 140737488351232 := by
  have := Go.sized_slice h ht hd hu
  rw [hb] at this
  exact this

end Go.Proofs.YtikjnfghlohjkaaGreatDoor
