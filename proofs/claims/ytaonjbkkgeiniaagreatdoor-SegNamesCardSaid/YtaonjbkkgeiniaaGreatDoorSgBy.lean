/- A row of bytes in memory, read as a list: what a conversion from a string lays, what a store does, what a conversion back reads. -/
import Derived.Test.YtaonjbkkgeiniaaGreatDoorB2
namespace Go.Proofs.YtaonjbkkgeiniaaGreatDoor
open Go.RowKit

def nth (l : List UInt8) (j : Nat) : UInt8 := l.getD j 0
theorem nth_eq (l : List UInt8) (j : Nat) (h : j < l.length) : l[j] = nth l j := by
  unfold nth; rw [List.getD_eq_getElem?_getD, List.getElem?_eq_getElem h]; rfl
theorem nth_set_same (l : List UInt8) (k : Nat) (x : UInt8) (h : k < l.length) : nth (l.set k x) k = x := by
  unfold nth; rw [List.getD_eq_getElem?_getD, List.getElem?_set_self h]; rfl
theorem nth_set_other (l : List UInt8) (k j : Nat) (x : UInt8) (h : k ≠ j) : nth (l.set k x) j = nth l j := by
  unfold nth; rw [List.getD_eq_getElem?_getD, List.getD_eq_getElem?_getD, List.getElem?_set_ne h]
theorem nth_str (s : ByteArray) (j : Nat) (h : j < s.size) : s[j] = nth s.data.toList j := by
  rw [← nth_eq _ _ (by simpa using h)]; rfl

/-- block b holds the bytes l, which may be written -/
def bytesAt (w : World) (b : Nat) (l : List UInt8) : Prop :=
  ∃ C lo hi, w.heap[b]? = some (.cells C 5 (lo, hi)) ∧ (l.length ≤ lo ∨ hi = 0) ∧ ∀ j, j < l.length → C[j]? = some (.int .u8 ((nth l j).toNat : Int))
theorem bytesAt.lt {w : World} {b : Nat} {l : List UInt8} (h : bytesAt w b l) : b < w.heap.size := by
  obtain ⟨C, lo, hi, h1, _⟩ := h
  exact (Array.getElem?_eq_some_iff.1 h1).1
theorem bytesAt.cell {w : World} {b : Nat} {l : List UInt8} (h : bytesAt w b l) (j : Nat) (hj : j < l.length) : w.cell? ⟨b, j, none⟩ = some (.int .u8 ((nth l j).toNat : Int)) := by
  obtain ⟨C, lo, hi, h1, h2, h3⟩ := h
  rw [cell_of_row w b j C _ _ h1, h3 j hj]
theorem bytesAt.frozen {w : World} {b : Nat} {l : List UInt8} (h : bytesAt w b l) (j : Nat) (hj : j < l.length) : w.frozen? ⟨b, j, none⟩ = false := by
  obtain ⟨C, lo, hi, h1, h2, h3⟩ := h
  unfold World.frozen?
  rw [h1]
  show (decide (lo ≤ j) && decide (j < hi)) = false
  rcases h2 with h2 | h2
  · rw [decide_eq_false (by omega)]; rfl
  · rw [decide_eq_false (p := j < hi) (by omega)]; simp
theorem bytesAt.drewN {w : World} {b : Nat} {l : List UInt8} (h : bytesAt w b l) (n : Nat) : bytesAt (w.drewN n) b l := h
theorem bytesAt.drew {w : World} {b : Nat} {l : List UInt8} (h : bytesAt w b l) : bytesAt w.drew b l := h
theorem bytesAt.keep {w w' : World} {b B : Nat} {l : List UInt8} (h : bytesAt w b l) (hb : Below B w w') (hB : b < B) : bytesAt w' b l := by
  unfold bytesAt; rw [hb.block b hB]; exact h
theorem bytesAt.store {w : World} {b : Nat} {l : List UInt8} (h : bytesAt w b l) (k : Nat) (hk : k < l.length) (x : UInt8) : bytesAt (w.setCell ⟨b, k, none⟩ (.int .u8 (x.toNat : Int))) b (l.set k x) := by
  obtain ⟨C, lo, hi, h1, h2, h3⟩ := h
  have hkC : k < C.size := (Array.getElem?_eq_some_iff.1 (h3 k hk)).1
  refine ⟨C.setIfInBounds k (.int .u8 (x.toNat : Int)), lo, hi, ?_, by simpa using h2, ?_⟩
  · simp only [World.setCell, Array.getElem?_modify, h1]
    simp
  · intro j hj
    rw [List.length_set] at hj
    rw [Array.getElem?_setIfInBounds]
    by_cases e : k = j
    · subst e
      rw [if_pos rfl, if_pos hkC, nth_set_same l k x hk]
    · rw [if_neg e, nth_set_other l k j x e, h3 j hj]
theorem bytesAt.conv {w : World} {b : Nat} {l : List UInt8} (h : bytesAt w b l) (n cap : Nat) (hn : l.length = n) :
    (convert 32 9 (.slice (some ⟨b, 0, none⟩) n cap)).run Tryz.prog w = .ok (.string ⟨l.toArray⟩) w := by
  subst hn
  refine run_convert_bytes_back _ _ _ 5 _ _ l Tryz.underlying32 Tryz.underlying5 Tryz.underlying9 ?_
  intro j hj
  have : (⟨b, 0, none⟩ : Addr).add j = ⟨b, j, none⟩ := by unfold Addr.add; split <;> simp_all
  rw [this, h.cell j hj, nth_eq l j hj]
/-- what '[]byte(s)' lays -/
theorem bytesAt_of (w : World) (s : ByteArray) (cap : Nat) (fr : Nat × Nat) (hfr : s.size ≤ fr.1) : bytesAt (w.alloc (.cells (bytesRow s cap) 5 fr)) w.heap.size s.data.toList := by
  refine ⟨bytesRow s cap, fr.1, fr.2, ?_, Or.inl (by simpa using hfr), ?_⟩
  · show (w.heap.push _)[w.heap.size]? = _
    simp
  · intro j hj
    have hj' : j < s.data.size := by simpa using hj
    rw [bytesRow_at s cap j hj', ← nth_eq _ _ hj]
    rfl
theorem size_bytesRow (s : ByteArray) (cap : Nat) : s.size ≤ (bytesRow s cap).size := by
  unfold bytesRow
  rw [Array.size_append, Array.size_map]
  exact Nat.le_add_right _ _
/-- '[]byte(s)' as the walk meets it: the capacity behind a name -/
theorem conv_str (w : World) (s : ByteArray) : ∃ cap O, (convert 9 32 (.string s)).run Tryz.prog w = .ok (.slice (some ⟨w.heap.size, 0, none⟩) s.size cap) (w.alloc O).drew ∧ bytesAt (w.alloc O).drew w.heap.size s.data.toList := by
  refine ⟨_, _, run_bytes_of_string w _ _ _ s Tryz.underlying9 Tryz.underlying32 Tryz.underlying5, ?_⟩
  exact (bytesAt_of w s _ _ (size_bytesRow s _)).drew

end Go.Proofs.YtaonjbkkgeiniaaGreatDoor
