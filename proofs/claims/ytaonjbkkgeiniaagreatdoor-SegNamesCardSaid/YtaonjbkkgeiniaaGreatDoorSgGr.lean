/- Split's segments as groups of payloads. -/
import Derived.Test.YtaonjbkkgeiniaaGreatDoorSgA
import Derived.Test.YtaonjbkkgeiniaaGreatDoorSgF
namespace Go.Proofs.YtaonjbkkgeiniaaGreatDoor

/-- the groups, c under way -/
def spGr (most : Nat) : List (List UInt8) → List (List UInt8) → List (List (List UInt8))
  | c, [] => [c]
  | c, l :: ls => if 16 < 16 + sizeF c ∧ most < 16 + sizeF c + 16 + l.length then c :: spGr most [l] ls else spGr most (c ++ [l]) ls
def segsOf : Nat → List (List (List UInt8)) → List (List UInt8)
  | _, [] => []
  | f, c :: cs => (hdrL f ++ joinF f c) :: segsOf (f + c.length) cs
theorem sp_groups (most : Nat) : ∀ (ls c : List (List UInt8)) (f : Nat) (d : List (List UInt8)),
    (spS most (f + c.length) (d, hdrL f ++ joinF f c) ls).1 ++ [(spS most (f + c.length) (d, hdrL f ++ joinF f c) ls).2] = d ++ segsOf f (spGr most c ls)
  | [], c, f, d => rfl
  | l :: ls, c, f, d => by
    have hlen : (hdrL f ++ joinF f c).length = 16 + sizeF c := by rw [List.length_append, hdr_len, join_len]
    show (spS most (f + c.length + 1) (spStep most (f + c.length) (d, hdrL f ++ joinF f c) l) ls).1 ++ [(spS most (f + c.length + 1) (spStep most (f + c.length) (d, hdrL f ++ joinF f c) l) ls).2] = d ++ segsOf f (spGr most c (l :: ls))
    by_cases h : 16 < 16 + sizeF c ∧ most < 16 + sizeF c + 16 + l.length
    · have e1 : spStep most (f + c.length) (d, hdrL f ++ joinF f c) l = (d ++ [hdrL f ++ joinF f c], hdrL (f + c.length) ++ joinF ((f + c.length : Nat) : Int) [l]) := by
        unfold spStep
        show (if 16 < (hdrL f ++ joinF f c).length ∧ most < (hdrL f ++ joinF f c).length + 16 + l.length then _ else _) = _
        rw [hlen, if_pos h]
        show (_, _) = (_, hdrL (f + c.length) ++ (frm ((f + c.length : Nat) : Int).toNat l ++ []))
        rw [List.append_nil, Int.toNat_natCast]
      have e2 : spGr most c (l :: ls) = c :: spGr most [l] ls := by show (if _ then _ else _) = _; rw [if_pos h]
      rw [e1, e2]
      have := sp_groups most ls [l] (f + c.length) (d ++ [hdrL f ++ joinF f c])
      rw [List.length_singleton] at this
      rw [this]
      show _ = d ++ ((hdrL f ++ joinF f c) :: segsOf (f + c.length) (spGr most [l] ls))
      rw [List.append_assoc, List.singleton_append]
    · have e1 : spStep most (f + c.length) (d, hdrL f ++ joinF f c) l = (d, hdrL f ++ joinF f (c ++ [l])) := by
        unfold spStep
        show (if 16 < (hdrL f ++ joinF f c).length ∧ most < (hdrL f ++ joinF f c).length + 16 + l.length then _ else _) = _
        rw [hlen, if_neg h]
        show (_, _) = _
        rw [join_snoc, List.append_assoc]
        congr 3
      have e2 : spGr most c (l :: ls) = spGr most (c ++ [l]) ls := by show (if _ then _ else _) = _; rw [if_neg h]
      rw [e1, e2]
      have := sp_groups most ls (c ++ [l]) f d
      rw [List.length_append, List.length_singleton, ← Nat.add_assoc] at this
      exact this
theorem spL_groups (most f : Nat) (ls : List (List UInt8)) : spL most f ls = segsOf f (spGr most [] ls) := by
  have := sp_groups most ls [] f []
  rw [List.nil_append] at this
  rw [← this]
  unfold spL
  show _ = (spS most f ([], hdrL f ++ []) ls).1 ++ [(spS most f ([], hdrL f ++ []) ls).2]
  rw [List.append_nil]
theorem gr_all (most : Nat) : ∀ (ls c : List (List UInt8)), (spGr most c ls).flatten = c ++ ls
  | [], c => by show [c].flatten = _; simp
  | l :: ls, c => by
    show (if _ then _ else _ : List (List (List UInt8))).flatten = _
    split
    · rw [List.flatten_cons, gr_all most ls [l]]; rfl
    · rw [gr_all most ls (c ++ [l]), List.append_assoc]; rfl
theorem gr_big (most : Nat) (hm : 64 ≤ most) : ∀ (ls c : List (List UInt8)), (c.length ≤ 1 ∨ 16 + sizeF c ≤ most) → ∀ g ∈ spGr most c ls, most < 16 + sizeF g → g.length = 1
  | [], c, hc, g, hg, hb => by
    obtain rfl : g = c := List.mem_singleton.1 hg
    rcases hc with hc | hc
    · cases g with
      | nil => simp [sizeF] at hb; omega
      | cons a g => simp at hc ⊢; exact hc
    · omega
  | l :: ls, c, hc, g, hg, hb => by
    have hg' : g ∈ (if 16 < 16 + sizeF c ∧ most < 16 + sizeF c + 16 + l.length then c :: spGr most [l] ls else spGr most (c ++ [l]) ls) := hg
    by_cases h : 16 < 16 + sizeF c ∧ most < 16 + sizeF c + 16 + l.length
    · rw [if_pos h] at hg'
      rcases List.mem_cons.1 hg' with rfl | hg'
      · rcases hc with hc | hc
        · cases g with
          | nil => simp [sizeF] at h
          | cons a g => simp at hc ⊢; exact hc
        · omega
      · exact gr_big most hm ls [l] (.inl (Nat.le_refl _)) g hg' hb
    · rw [if_neg h] at hg'
      refine gr_big most hm ls (c ++ [l]) ?_ g hg' hb
      cases c with
      | nil => exact .inl (Nat.le_refl _)
      | cons a c =>
        right
        have h1 : 16 < 16 + sizeF (a :: c) := by show 16 < 16 + (16 + a.length + sizeF c); omega
        rw [size_snoc]
        omega
theorem gr_head (most : Nat) : ∀ (ls c : List (List UInt8)) (l : List UInt8), ∃ r rest, spGr most (l :: c) ls = (l :: r) :: rest
  | [], c, l => ⟨c, [], rfl⟩
  | m :: ls, c, l => by
    by_cases h : 16 < 16 + sizeF (l :: c) ∧ most < 16 + sizeF (l :: c) + 16 + m.length
    · exact ⟨c, spGr most [m] ls, by show (if _ then _ else _) = _; rw [if_pos h]⟩
    · obtain ⟨r, rest, e⟩ := gr_head most ls (c ++ [m]) l
      exact ⟨r, rest, by show (if _ then _ else _) = _; rw [if_neg h]; exact e⟩
theorem gr_next (most : Nat) : ∀ (ls c : List (List UInt8)) (i : Nat) (a b : List (List UInt8)), (spGr most c ls)[i]? = some a → (spGr most c ls)[i + 1]? = some b → ∃ l r, b = l :: r ∧ 16 < 16 + sizeF a ∧ most < 16 + sizeF a + 16 + l.length
  | [], c, i, a, b, h1, h2 => by
    have h2' : ([c] : List (List (List UInt8)))[i + 1]? = some b := h2
    simp at h2'
  | l :: ls, c, i, a, b, h1, h2 => by
    by_cases h : 16 < 16 + sizeF c ∧ most < 16 + sizeF c + 16 + l.length
    · have e : spGr most c (l :: ls) = c :: spGr most [l] ls := by show (if _ then _ else _) = _; rw [if_pos h]
      rw [e] at h1 h2
      cases i with
      | zero =>
        obtain rfl : c = a := by simpa using h1
        obtain ⟨r, rest, e2⟩ := gr_head most ls [] l
        rw [e2] at h2
        obtain rfl : l :: r = b := by simpa using h2
        exact ⟨l, r, rfl, h⟩
      | succ i => exact gr_next most ls [l] i a b (by simpa using h1) (by simpa using h2)
    · have e : spGr most c (l :: ls) = spGr most (c ++ [l]) ls := by show (if _ then _ else _) = _; rw [if_neg h]
      rw [e] at h1 h2
      exact gr_next most ls (c ++ [l]) i a b h1 h2
theorem gr_ne (most : Nat) : ∀ (ls c : List (List UInt8)), spGr most c ls ≠ []
  | [], c => by show [c] ≠ []; simp
  | l :: ls, c => by
    show (if _ then _ else _) ≠ _
    split
    · simp
    · exact gr_ne most ls _
/-- segment i -/
theorem segs_get : ∀ (gs : List (List (List UInt8))) (f i : Nat) (g : List (List UInt8)), gs[i]? = some g → (segsOf f gs)[i]? = some (hdrL (f + (gs.take i).flatten.length) ++ joinF ((f + (gs.take i).flatten.length : Nat) : Int) g)
  | [], f, i, g, h => by simp at h
  | c :: cs, f, 0, g, h => by
    obtain rfl : c = g := by simpa using h
    rfl
  | c :: cs, f, i + 1, g, h => by
    have := segs_get cs (f + c.length) i g (by simpa using h)
    show (segsOf (f + c.length) cs)[i]? = _
    rw [this, List.take_succ_cons, List.flatten_cons, List.length_append, Nat.add_assoc]
theorem segs_len : ∀ (gs : List (List (List UInt8))) (f : Nat), (segsOf f gs).length = gs.length
  | [], f => rfl
  | c :: cs, f => by show (segsOf (f + c.length) cs).length + 1 = _; rw [segs_len]; rfl
end Go.Proofs.YtaonjbkkgeiniaaGreatDoor
