/- FrameBack: what stands in the rows, by place. -/
import Derived.Test.YtkgcjelipllpdaaJoinL
import Derived.Test.YtkgcjelipllpdaaRowsIn
import Derived.Test.YtkgcjelipllpdaaWorks
namespace Go.Proofs.Ytkgcjelipllpdaa
open Go.RowKit

theorem size_take_succ (ls : List (List UInt8)) (k : Nat) (h : k < ls.length) : sizeF (ls.take (k + 1)) = sizeF (ls.take k) + (16 + ls[k].length) := by
  rw [List.take_succ_eq_append_getElem h, size_snoc]
theorem size_take_le (ls : List (List UInt8)) (k : Nat) : sizeF (ls.take k) ≤ sizeF ls := by
  have := size_app (ls.take k) (ls.drop k)
  rw [List.take_append_drop] at this
  omega
theorem size_take_mono (ls : List (List UInt8)) (j k : Nat) (h : j ≤ k) : sizeF (ls.take j) ≤ sizeF (ls.take k) := by
  have := size_take_le (ls.take k) j
  rw [List.take_take, Nat.min_eq_left h] at this
  exact this
theorem join_take_succ (f : Int) (ls : List (List UInt8)) (k : Nat) (h : k < ls.length) : joinF f (ls.take (k + 1)) = joinF f (ls.take k) ++ frm (f + k).toNat ls[k] := by
  rw [List.take_succ_eq_append_getElem h, join_snoc, List.length_take, Nat.min_eq_left (by omega)]
theorem ok_take_succ (f : Int) (ls : List (List UInt8)) (k : Nat) (h : k < ls.length) : okF f (ls.take (k + 1)) ↔ okF f (ls.take k) ∧ (0 ≤ f + k ∧ f + k < 1048576 ∧ 1 ≤ ls[k].length ∧ ls[k].length ≤ 4096) := by
  rw [List.take_succ_eq_append_getElem h, ok_snoc, List.length_take, Nat.min_eq_left (by omega)]

/-- the frames' ends -/
def endsF (ls : List (List UInt8)) (k : Nat) : List Int := (List.range k).map fun i => (sizeF (ls.take (i + 1)) : Int)
theorem ends_len (ls : List (List UInt8)) (k : Nat) : (endsF ls k).length = k := by unfold endsF; rw [List.length_map, List.length_range]
theorem ends_succ (ls : List (List UInt8)) (k : Nat) : endsF ls (k + 1) = endsF ls k ++ [(sizeF (ls.take (k + 1)) : Int)] := by
  unfold endsF; rw [List.range_succ, List.map_append]; rfl
theorem ends_get (ls : List (List UInt8)) (k i : Nat) (h : i < k) : ((endsF ls k).map (Value.int .i64))[i]? = some (.int .i64 (sizeF (ls.take (i + 1)) : Int)) := by
  unfold endsF
  rw [List.getElem?_map, List.getElem?_map, List.getElem?_range h]; rfl

theorem rowF_get (ls : List (List UInt8)) : ∀ (f : Int) (a i : Nat), (h : i < ls.length) → okF f ls →
    (rowF f a ls)[3 * i]? = some (.int .i64 (f + i)) ∧ (rowF f a ls)[3 * i + 1]? = some (.string (bs ls[i])) ∧ (rowF f a ls)[3 * i + 2]? = some (.int .i64 (a + sizeF (ls.take i) : Nat)) := by
  induction ls with
  | nil => intro f a i h; cases h
  | cons l ls ih =>
    intro f a i h hk
    obtain ⟨⟨h0, _⟩, hk'⟩ := hk
    have e3 : (frCells f.toNat (bs l) a).toList.length = 3 := rfl
    cases i with
    | zero =>
      refine ⟨?_, rfl, ?_⟩
      · show some (Value.int .i64 (f.toNat : Int)) = _
        rw [Int.toNat_of_nonneg h0]; show _ = some (Value.int .i64 (f + (0 : Nat))); congr 2; omega
      · show some (Value.int .i64 (a : Int)) = some (Value.int .i64 ((a + 0 : Nat) : Int)); rfl
    | succ i =>
      have h' : i < ls.length := by have : i + 1 < ls.length + 1 := h; omega
      obtain ⟨g1, g2, g3⟩ := ih (f + 1) (a + 16 + l.length) i h' hk'
      have e : rowF f a (l :: ls) = (frCells f.toNat (bs l) a).toList ++ rowF (f + 1) (a + 16 + l.length) ls := rfl
      rw [e, List.getElem?_append_right (by rw [e3]; omega), List.getElem?_append_right (by rw [e3]; omega), List.getElem?_append_right (by rw [e3]; omega), e3, show 3 * (i + 1) - 3 = 3 * i by omega, show 3 * (i + 1) + 1 - 3 = 3 * i + 1 by omega, show 3 * (i + 1) + 2 - 3 = 3 * i + 2 by omega]
      refine ⟨?_, g2, ?_⟩
      · rw [g1]; congr 2; omega
      · rw [g3]; congr 3; show a + 16 + l.length + sizeF (ls.take i) = a + (16 + l.length + sizeF (ls.take i)); omega

/-- the cells of a row of frames -/
theorem row_cells {w : World} {B cap n : Nat} {oa : Option Addr} {xs : List Value} (h : w.ownsRow B 24 3 (.slice oa n cap) n xs) (h0 : 0 < n) :
    ∃ g, oa = some ⟨g, 0, none⟩ ∧ g < w.heap.size ∧ B ≤ g ∧ ∀ (j : Nat) v, xs[j]? = some v → w.cell? ⟨g, j, none⟩ = some v := by
  rcases h.2 with ⟨_, hn⟩ | ⟨g, c, cur, hv, hB, hcur, _⟩
  · subst hn; cases h0
  · cases hv
    have add : ∀ j, (⟨g, 0, none⟩ : Addr).add j = ⟨g, j, none⟩ := fun j => by unfold Addr.add; split <;> simp_all
    refine ⟨g, rfl, (Array.getElem?_eq_some_iff.1 hcur).1, hB, fun j v hj => ?_⟩
    have c0 := h.cells (g := g) rfl j v hj
    rwa [add] at c0
theorem irow_cells {w : World} {B cap n : Nat} {oa : Option Addr} {xs : List Value} {t : TypeId} (h : w.ownsRow B t 1 (.slice oa n cap) n xs) (h0 : 0 < n) :
    ∃ g, oa = some ⟨g, 0, none⟩ ∧ g < w.heap.size ∧ B ≤ g ∧ ∀ (j : Nat) v, xs[j]? = some v → w.cell? ⟨g, j, none⟩ = some v := by
  rcases h.2 with ⟨_, hn⟩ | ⟨g, c, cur, hv, hB, hcur, _⟩
  · subst hn; cases h0
  · cases hv
    have add : ∀ j, (⟨g, 0, none⟩ : Addr).add j = ⟨g, j, none⟩ := fun j => by unfold Addr.add; split <;> simp_all
    refine ⟨g, rfl, (Array.getElem?_eq_some_iff.1 hcur).1, hB, fun j v hj => ?_⟩
    have c0 := h.cells (g := g) rfl j v hj
    rwa [add] at c0
theorem row_shape {w : World} {B n k : Nat} {v : Value} {xs : List Value} {t : TypeId} (h : w.ownsRow B t k v n xs) : ∃ oa cap, v = .slice oa n cap := by
  rcases h.2 with ⟨rfl, rfl⟩ | ⟨g, c, cur, rfl, _⟩
  · exact ⟨none, 0, rfl⟩
  · exact ⟨_, _, rfl⟩

/-- how many are whole -/
theorem whole_iff (ls : List (List UInt8)) : ∀ (a k j : Nat), j < wholeF a ls k ↔ (j < ls.length ∧ a + sizeF (ls.take (j + 1)) ≤ k) := by
  induction ls with
  | nil => intro a k j; show j < 0 ↔ j < 0 ∧ _; omega
  | cons l ls ih =>
    intro a k j
    have e : wholeF a (l :: ls) k = if a + 16 + l.length ≤ k then wholeF (a + 16 + l.length) ls k + 1 else 0 := rfl
    have hl : (l :: ls).length = ls.length + 1 := rfl
    have hs : ∀ i, sizeF ((l :: ls).take (i + 1)) = 16 + l.length + sizeF (ls.take i) := fun i => rfl
    rw [e, hl]
    by_cases hk : a + 16 + l.length ≤ k
    · rw [if_pos hk]
      cases j with
      | zero =>
        rw [hs 0]
        show 0 < wholeF (a + 16 + l.length) ls k + 1 ↔ 0 < ls.length + 1 ∧ a + (16 + l.length + 0) ≤ k
        omega
      | succ j =>
        have := ih (a + 16 + l.length) k j
        rw [hs (j + 1)]
        constructor
        · intro h; have := this.1 (by omega); omega
        · intro h; have := this.2 ⟨by omega, by omega⟩; omega
    · rw [if_neg hk, hs j]
      omega

theorem scan_ps (S : ByteArray) (f : Int) (ls : List (List UInt8)) (w : World) (hs : S.size ≤ 1000000) (h : okF f ls) (hd : S.data.toList = joinF f ls) :
    Calls Try.prog 12 #[.string S, .int .i64 0, .int .i64 f] w
      fun e w' => ∃ oa cap, e = .returned (.tuple #[.slice oa ls.length cap, .int .i64 (sizeF ls)]) ∧ w'.ownsRow w.heap.size 24 3 (.slice oa ls.length cap) ls.length (rowF f 0 ls) ∧ Below w.heap.size w w' := by
  obtain ⟨h1, h2⟩ := scanL_whole ls [] f h
  rw [List.nil_append] at h1 h2
  have h2' : scanG (joinF f ls) ((0 : Nat) : Int) f = sizeF ls := by
    rw [show (0 : Nat) = ([] : List UInt8).length from rfl, h2]; show 0 + sizeF ls = sizeF ls; omega
  have hr := row_join ls S [] [] f h (by rw [List.nil_append, List.append_nil]; exact hd)
  refine (scan_to S (joinF f ls) ((0 : Nat) : Int) f (placesF 0 ls) (sizeF ls) w hs hd h1 h2').mono ?_
  rw [places_len, show placesF 0 ls = placesF ([] : List UInt8).length ls from rfl, hr]
  exact fun e w' h => h
theorem scan_cut (S : ByteArray) (f : Int) (ls : List (List UInt8)) (k : Nat) (w : World) (hs : S.size ≤ 1000000) (h : okF f ls) (hd : S.data.toList = (joinF f ls).take k) :
    Calls Try.prog 12 #[.string S, .int .i64 0, .int .i64 f] w
      fun e w' => ∃ oa cap, e = .returned (.tuple #[.slice oa (wholeF 0 ls k) cap, .int .i64 (sizeF (ls.take (wholeF 0 ls k)))]) ∧ w'.ownsRow w.heap.size 24 3 (.slice oa (wholeF 0 ls k) cap) (wholeF 0 ls k) (frRow S (placesF 0 (ls.take (wholeF 0 ls k)))) ∧ Below w.heap.size w w' := by
  obtain ⟨h1, h2⟩ := scanL_cut ls [] f k h (Nat.zero_le _)
  rw [List.nil_append] at h1 h2
  have h2' : scanG ((joinF f ls).take k) ((0 : Nat) : Int) f = sizeF (ls.take (wholeF 0 ls k)) := by
    rw [show ((0 : Nat) : Int) = (([] : List UInt8).length : Int) from rfl, h2]; exact Nat.zero_add _
  refine (scan_to S ((joinF f ls).take k) ((0 : Nat) : Int) f (placesF 0 (ls.take (wholeF 0 ls k))) _ w hs hd h1 h2').mono ?_
  rw [places_len, List.length_take, Nat.min_eq_left (whole_le _ _ _)]
  exact fun e w' h => h
theorem scan_more (X : ByteArray) (f : Int) (ls : List (List UInt8)) (w : World) (hs : X.size ≤ 1000000) (h : okF f ls) (r : List UInt8) (hd : X.data.toList = joinF f ls ++ r) :
    Calls Try.prog 12 #[.string X, .int .i64 0, .int .i64 f] w
      fun e w' => ∃ oa n cap good ys, e = .returned (.tuple #[.slice oa n cap, .int .i64 (good : Nat)]) ∧ ls.length ≤ n ∧ sizeF ls ≤ good ∧ w'.ownsRow w.heap.size 24 3 (.slice oa n cap) n (rowF f 0 ls ++ ys) ∧ Below w.heap.size w w' := by
  obtain ⟨ys, h1, h2, h3⟩ := scanL_join ls [] r f h
  rw [List.nil_append] at h1 h3
  have hr := row_join ls X [] r f h (by rw [List.nil_append]; exact hd)
  have hg : sizeF ls ≤ scanG (joinF f ls ++ r) ((0 : Nat) : Int) f := by
    rw [show ((0 : Nat) : Int) = (([] : List UInt8).length : Int) from rfl, h3, h2, List.nil_append]
    have := good_ge (joinF f ls ++ r) (([] : List UInt8).length + sizeF ls + r.length + 1 - ls.length) (([] : List UInt8).length + sizeF ls) (f + ls.length)
    have h0 : ([] : List UInt8).length = 0 := rfl
    omega
  refine (scan_to X (joinF f ls ++ r) ((0 : Nat) : Int) f (placesF 0 ls ++ ys) _ w hs hd h1 rfl).mono ?_
  rintro e w' ⟨oa, cap, rfl, ho, hb⟩
  have hrow : frRow X (placesF 0 ls ++ ys) = rowF f 0 ls ++ frRow X ys := by
    rw [show placesF 0 ls = placesF ([] : List UInt8).length ls from rfl]
    unfold frRow at hr ⊢
    rw [List.flatMap_append, hr]; rfl
  rw [hrow] at ho
  exact ⟨oa, _, cap, _, _, rfl, by rw [List.length_append, places_len]; omega, hg, ho, hb⟩

end Go.Proofs.Ytkgcjelipllpdaa
