/- Frames one behind the other: what is scanned of them, whole and cut short. -/
import Derived.Test.YtkgcjelipllpdaaFrameLaw2
namespace Go.Proofs.Ytkgcjelipllpdaa
open Go.RowKit

/-- frames that are numbered on from f -/
def joinF : Int → List (List UInt8) → List UInt8
  | _, [] => []
  | f, l :: ls => frm f.toNat l ++ joinF (f + 1) ls
/-- where they stand, the first one at a -/
def placesF : Nat → List (List UInt8) → List Nat
  | _, [] => []
  | a, l :: ls => a :: placesF (a + 16 + l.length) ls
/-- how many bytes they are -/
def sizeF : List (List UInt8) → Nat
  | [] => 0
  | l :: ls => 16 + l.length + sizeF ls
/-- may each be made? -/
def okF : Int → List (List UInt8) → Prop
  | _, [] => True
  | f, l :: ls => (0 ≤ f ∧ f < 1048576 ∧ 1 ≤ l.length ∧ l.length ≤ 4096) ∧ okF (f + 1) ls
/-- the cells of their row -/
def rowF : Int → Nat → List (List UInt8) → List Value
  | _, _, [] => []
  | f, a, l :: ls => (frCells f.toNat (bs l) a).toList ++ rowF (f + 1) (a + 16 + l.length) ls
/-- how many of them are whole, up to a place -/
def wholeF : Nat → List (List UInt8) → Nat → Nat
  | _, [], _ => 0
  | a, l :: ls, k => if a + 16 + l.length ≤ k then wholeF (a + 16 + l.length) ls k + 1 else 0

theorem frm_len (q : Nat) (l : List UInt8) : (frm q l).length = 16 + l.length := by
  unfold frm head
  simp only [List.length_append, length_be4, length_be8, length_four]
theorem join_len (ls : List (List UInt8)) : ∀ f, (joinF f ls).length = sizeF ls := by
  induction ls with
  | nil => intro f; rfl
  | cons l ls ih => intro f; show (frm f.toNat l ++ joinF (f + 1) ls).length = _; rw [List.length_append, frm_len, ih]; rfl
theorem size_count (ls : List (List UInt8)) : 16 * ls.length ≤ sizeF ls := by
  induction ls with
  | nil => exact Nat.le_refl _
  | cons l ls ih => show 16 * (ls.length + 1) ≤ 16 + l.length + sizeF ls; omega
theorem size_snoc (ls : List (List UInt8)) (l : List UInt8) : sizeF (ls ++ [l]) = sizeF ls + (16 + l.length) := by
  induction ls with
  | nil => show 16 + l.length + 0 = 0 + _; omega
  | cons m ls ih => show 16 + m.length + sizeF (ls ++ [l]) = 16 + m.length + sizeF ls + _; rw [ih]; omega
theorem size_app (ls ms : List (List UInt8)) : sizeF (ls ++ ms) = sizeF ls + sizeF ms := by
  induction ls with
  | nil => show sizeF ms = 0 + sizeF ms; omega
  | cons m ls ih => show 16 + m.length + sizeF (ls ++ ms) = 16 + m.length + sizeF ls + _; rw [ih]; omega
theorem join_app (ls ms : List (List UInt8)) : ∀ f, joinF f (ls ++ ms) = joinF f ls ++ joinF (f + ls.length) ms := by
  induction ls with
  | nil => intro f; show joinF f ms = [] ++ joinF (f + 0) ms; rw [Int.add_zero]; rfl
  | cons m ls ih =>
    intro f
    show frm f.toNat m ++ joinF (f + 1) (ls ++ ms) = (frm f.toNat m ++ joinF (f + 1) ls) ++ _
    rw [ih, List.append_assoc]
    congr 3
    show f + 1 + (ls.length : Int) = f + ((ls.length + 1 : Nat) : Int)
    omega
theorem join_snoc (ls : List (List UInt8)) (l : List UInt8) (f : Int) : joinF f (ls ++ [l]) = joinF f ls ++ frm (f + ls.length).toNat l := by
  rw [join_app]
  congr 1
  show _ ++ [] = _
  rw [List.append_nil]
theorem ok_app (ls ms : List (List UInt8)) : ∀ f, okF f (ls ++ ms) ↔ okF f ls ∧ okF (f + ls.length) ms := by
  induction ls with
  | nil => intro f; show okF f ms ↔ True ∧ okF (f + 0) ms; rw [Int.add_zero]; simp
  | cons m ls ih =>
    intro f
    show (_ ∧ okF (f + 1) (ls ++ ms)) ↔ (_ ∧ okF (f + 1) ls) ∧ _
    rw [ih, ← and_assoc, show f + 1 + (ls.length : Int) = f + ((m :: ls).length : Int) by rw [List.length_cons]; omega]
theorem ok_snoc (ls : List (List UInt8)) (l : List UInt8) (f : Int) : okF f (ls ++ [l]) ↔ okF f ls ∧ (0 ≤ f + ls.length ∧ f + ls.length < 1048576 ∧ 1 ≤ l.length ∧ l.length ≤ 4096) := by
  rw [ok_app]
  show _ ∧ (_ ∧ True) ↔ _
  simp
theorem ok_first {f : Int} {ls : List (List UInt8)} (h : okF f ls) (h1 : 0 < ls.length) : 0 ≤ f ∧ f + ls.length ≤ 1048576 := by
  induction ls generalizing f with
  | nil => cases h1
  | cons l ls ih =>
    obtain ⟨⟨a, b, c, d⟩, g⟩ := h
    rw [List.length_cons]
    by_cases h2 : 0 < ls.length
    · have := ih g h2; omega
    · omega
theorem ok_count (ls : List (List UInt8)) : ∀ f, okF f ls → 17 * ls.length ≤ sizeF ls := by
  induction ls with
  | nil => intro f _; exact Nat.le_refl _
  | cons l ls ih =>
    intro f h
    have := ih _ h.2
    have := h.1
    show 17 * (ls.length + 1) ≤ 16 + l.length + sizeF ls
    omega
theorem whole_le (ls : List (List UInt8)) : ∀ a k, wholeF a ls k ≤ ls.length := by
  induction ls with
  | nil => intro a k; exact Nat.le_refl _
  | cons l ls ih =>
    intro a k
    show (if _ then _ else _) ≤ ls.length + 1
    split
    · have := ih (a + 16 + l.length) k; show _ + 1 ≤ ls.length + 1; exact Nat.succ_le_succ this
    · omega
theorem places_len (ls : List (List UInt8)) : ∀ a, (placesF a ls).length = ls.length := by
  induction ls with
  | nil => intro a; rfl
  | cons l ls ih => intro a; show (placesF _ ls).length + 1 = _; rw [ih]; rfl
theorem row_len (ls : List (List UInt8)) : ∀ f a, (rowF f a ls).length = 3 * ls.length := by
  induction ls with
  | nil => intro f a; rfl
  | cons l ls ih => intro f a; show (_ ++ rowF _ _ ls).length = _; rw [List.length_append, ih]; show 3 + 3 * ls.length = 3 * (ls.length + 1); omega

theorem made_good (p l r : List UInt8) (f : Int) (h0 : 0 ≤ f) (hq : f < 1048576) (h1 : 1 ≤ l.length) (h2 : l.length ≤ 4096) :
    fGood (p ++ (frm f.toNat l ++ r)) p.length f ∧ fNext (p ++ (frm f.toNat l ++ r)) p.length = p.length + 16 + l.length ∧ fQ (p ++ (frm f.toNat l ++ r)) p.length = f.toNat ∧ sl (p ++ (frm f.toNat l ++ r)) (p.length + 16) (fN (p ++ (frm f.toNat l ++ r)) p.length) = l := by
  obtain ⟨e1, e2, e3, e4⟩ := read_made p l r f.toNat (by omega) h1 h2
  refine ⟨⟨e1, by rw [e3]; omega⟩, ?_, e3, by rw [e2]; exact e4⟩
  unfold fNext
  rw [e2]
theorem app_shift (p m j r : List UInt8) : p ++ ((m ++ j) ++ r) = p ++ (m ++ (j ++ r)) ∧ p ++ ((m ++ j) ++ r) = (p ++ m) ++ (j ++ r) := by
  simp only [List.append_assoc, and_self]
theorem shift_len (p l : List UInt8) (q : Nat) : (p ++ frm q l).length = p.length + 16 + l.length := by rw [List.length_append, frm_len]; omega

theorem scan_join (ls : List (List UInt8)) : ∀ (p r : List UInt8) (f : Int) (k : Nat), okF f ls →
    scanP (p ++ (joinF f ls ++ r)) (ls.length + k) p.length f = placesF p.length ls ++ scanP (p ++ (joinF f ls ++ r)) k (p.length + sizeF ls) (f + ls.length) := by
  induction ls with
  | nil => intro p r f k _; show scanP _ (0 + k) _ _ = [] ++ scanP _ k (p.length + 0) (f + 0); rw [Nat.zero_add, Nat.add_zero, Int.add_zero]; rfl
  | cons l ls ih =>
    intro p r f k h
    obtain ⟨⟨h0, hq, h1, h2⟩, h3⟩ := h
    obtain ⟨a1, a2⟩ := app_shift p (frm f.toNat l) (joinF (f + 1) ls) r
    obtain ⟨g1, g2, g3, g4⟩ := made_good p l (joinF (f + 1) ls ++ r) f h0 hq h1 h2
    show scanP (p ++ ((frm f.toNat l ++ joinF (f + 1) ls) ++ r)) (ls.length + 1 + k) p.length f = (p.length :: placesF (p.length + 16 + l.length) ls) ++ scanP (p ++ ((frm f.toNat l ++ joinF (f + 1) ls) ++ r)) k (p.length + (16 + l.length + sizeF ls)) (f + ((ls.length + 1 : Nat) : Int))
    rw [show ls.length + 1 + k = (ls.length + k) + 1 by omega]
    rw [← a1] at g1 g2
    show (if fGood _ _ _ then _ else _) = _
    rw [if_pos g1, g2, a2]
    have := ih (p ++ frm f.toNat l) r (f + 1) k h3
    rw [shift_len] at this
    rw [this, show p.length + 16 + l.length + sizeF ls = p.length + (16 + l.length + sizeF ls) by omega, show f + 1 + (ls.length : Int) = f + ((ls.length + 1 : Nat) : Int) by omega]
    rfl
theorem row_join (ls : List (List UInt8)) : ∀ (s : ByteArray) (p r : List UInt8) (f : Int), okF f ls → s.data.toList = p ++ (joinF f ls ++ r) → frRow s (placesF p.length ls) = rowF f p.length ls := by
  induction ls with
  | nil => intro s p r f _ _; rfl
  | cons l ls ih =>
    intro s p r f h hs
    obtain ⟨⟨h0, hq, h1, h2⟩, h3⟩ := h
    obtain ⟨a1, a2⟩ := app_shift p (frm f.toNat l) (joinF (f + 1) ls) r
    obtain ⟨g1, g2, g3, g4⟩ := made_good p l (joinF (f + 1) ls ++ r) f h0 hq h1 h2
    have hs1 : s.data.toList = p ++ ((frm f.toNat l ++ joinF (f + 1) ls) ++ r) := hs
    rw [← a1, ← hs1] at g3 g4
    have := ih s (p ++ frm f.toNat l) r (f + 1) h3 (by rw [hs1, a2])
    rw [shift_len] at this
    show frRow s (p.length :: placesF (p.length + 16 + l.length) ls) = (frCells f.toNat (bs l) p.length).toList ++ rowF (f + 1) (p.length + 16 + l.length) ls
    rw [← this]
    show (frCells (fQ s.data.toList p.length) (bs (sl s.data.toList (p.length + 16) (fN s.data.toList p.length))) p.length).toList ++ _ = _
    rw [g3, g4]
    rfl
theorem good_join (ls : List (List UInt8)) : ∀ (p r : List UInt8) (f : Int), okF f ls → goodP (p ++ (joinF f ls ++ r)) p.length (placesF p.length ls) = p.length + sizeF ls := by
  induction ls with
  | nil => intro p r f _; rfl
  | cons l ls ih =>
    intro p r f h
    obtain ⟨⟨h0, hq, h1, h2⟩, h3⟩ := h
    obtain ⟨a1, a2⟩ := app_shift p (frm f.toNat l) (joinF (f + 1) ls) r
    obtain ⟨g1, g2, g3, g4⟩ := made_good p l (joinF (f + 1) ls ++ r) f h0 hq h1 h2
    rw [← a1] at g2
    show goodP (p ++ ((frm f.toNat l ++ joinF (f + 1) ls) ++ r)) (fNext (p ++ ((frm f.toNat l ++ joinF (f + 1) ls) ++ r)) p.length) (placesF (p.length + 16 + l.length) ls) = p.length + (16 + l.length + sizeF ls)
    rw [g2, a2]
    have := ih (p ++ frm f.toNat l) r (f + 1) h3
    rw [shift_len] at this
    rw [this]
    omega
theorem good_app (l : List UInt8) (xs : List Nat) : ∀ (a : Nat) (ys : List Nat), goodP l a (xs ++ ys) = goodP l (goodP l a xs) ys := by
  intro a ys; unfold goodP; rw [List.foldl_append]

/-- a frame that is cut short is not read -/
theorem torn_bad (p l : List UInt8) (q j : Nat) (hq : q < 1048576) (h1 : 1 ≤ l.length) (h2 : l.length ≤ 4096) (hj : j < 16 + l.length) : fE (p ++ (frm q l).take j) p.length = 8 := by
  have hL : (p ++ (frm q l).take j).length = p.length + j := by rw [List.length_append, List.length_take, frm_len]; omega
  unfold fE
  rw [hL]
  by_cases h16 : j < 16
  · rw [if_pos (by omega)]
  · rw [if_neg (by omega)]
    obtain ⟨c, hc⟩ : ∃ c, crc (head l.length q ++ l) = c := ⟨_, rfl⟩
    have hf : frm q l = be4 l.length ++ (be8 q ++ (four c ++ l)) := by unfold frm; rw [hc]; show be4 l.length ++ be8 q ++ four c ++ l = _; simp only [List.append_assoc]
    have ht : (frm q l).take j = be4 l.length ++ (be8 q ++ (four c ++ l.take (j - 16))) := by
      rw [hf, List.take_append, List.take_append, List.take_append]
      simp only [length_be4, length_be8, length_four]
      rw [List.take_of_length_le (by rw [length_be4]; omega), List.take_of_length_le (by rw [length_be8]; omega), List.take_of_length_le (by rw [length_four]; omega), show j - 4 - 8 - 4 = j - 16 by omega]
    have s1 : sl (p ++ (frm q l).take j) p.length 4 = be4 l.length := by rw [ht]; exact sl_mid _ _ _ _ _ rfl rfl
    have s2 : sl (p ++ (frm q l).take j) (p.length + 4) 8 = be8 q := by
      rw [ht]
      have : p ++ (be4 l.length ++ (be8 q ++ (four c ++ l.take (j - 16)))) = (p ++ be4 l.length) ++ (be8 q ++ (four c ++ l.take (j - 16))) := by simp only [List.append_assoc]
      rw [this]; exact sl_mid _ _ _ _ _ (by rw [List.length_append, length_be4]) rfl
    have e1 : fN (p ++ (frm q l).take j) p.length = l.length := by unfold fN; rw [s1, num_be4 _ (by omega)]
    have e2 : fQ (p ++ (frm q l).take j) p.length = q := by unfold fQ; rw [s2, num_be8 _ (by omega)]
    rw [if_neg (not_not_intro (by unfold fOk; rw [e1, e2]; omega)), e1, if_pos (by omega)]
/-- what is cut: the whole ones, and a piece of one -/
theorem take_join (ls : List (List UInt8)) : ∀ (p : List UInt8) (f : Int) (k : Nat), okF f ls → p.length ≤ k →
    ∃ r, (p ++ joinF f ls).take k = p ++ (joinF f (ls.take (wholeF p.length ls k)) ++ r) ∧ fE (p ++ (joinF f (ls.take (wholeF p.length ls k)) ++ r)) (p.length + sizeF (ls.take (wholeF p.length ls k))) = 8 := by
  induction ls with
  | nil =>
    intro p f k _ hk
    refine ⟨[], ?_, ?_⟩
    · show (p ++ []).take k = p ++ ([] ++ []); simp only [List.append_nil]; exact List.take_of_length_le hk
    · show fE (p ++ ([] ++ [])) (p.length + 0) = 8
      unfold fE; rw [if_pos (by simp only [List.append_nil]; omega)]
  | cons l ls ih =>
    intro p f k h hk
    obtain ⟨⟨h0, hq, h1, h2⟩, h3⟩ := h
    by_cases hw : p.length + 16 + l.length ≤ k
    · have e : wholeF p.length (l :: ls) k = wholeF (p.length + 16 + l.length) ls k + 1 := by show (if _ then _ else _) = _; rw [if_pos hw]
      obtain ⟨r, e1, e2⟩ := ih (p ++ frm f.toNat l) (f + 1) k h3 (by rw [shift_len]; omega)
      rw [shift_len] at e1 e2
      refine ⟨r, ?_, ?_⟩
      · rw [e]
        show (p ++ (frm f.toNat l ++ joinF (f + 1) ls)).take k = p ++ ((frm f.toNat l ++ joinF (f + 1) (ls.take _)) ++ r)
        rw [← List.append_assoc, e1, (app_shift _ _ _ _).2]
      · rw [e]
        show fE (p ++ ((frm f.toNat l ++ joinF (f + 1) (ls.take _)) ++ r)) (p.length + (16 + l.length + sizeF (ls.take _))) = 8
        rw [(app_shift _ _ _ _).2, show p.length + (16 + l.length + sizeF (ls.take (wholeF (p.length + 16 + l.length) ls k))) = p.length + 16 + l.length + sizeF (ls.take (wholeF (p.length + 16 + l.length) ls k)) by omega]
        exact e2
    · have e : wholeF p.length (l :: ls) k = 0 := by show (if _ then _ else _) = _; rw [if_neg hw]
      rw [e]
      refine ⟨(frm f.toNat l).take (k - p.length), ?_, ?_⟩
      · show (p ++ (frm f.toNat l ++ joinF (f + 1) ls)).take k = p ++ ([] ++ _)
        rw [List.nil_append, List.take_append, List.take_of_length_le hk, List.take_append_of_le_length (by rw [frm_len]; omega)]
      · show fE (p ++ ([] ++ _)) (p.length + 0) = 8
        rw [List.nil_append]
        exact torn_bad p l f.toNat _ (by omega) h1 h2 (by omega)
theorem scan_stop (l : List UInt8) (k a : Nat) (f : Int) (h : fE l a ≠ 0) : scanP l k a f = [] := by
  cases k with
  | zero => rfl
  | succ k => show (if _ then _ else _) = _; rw [if_neg (fun g => h g.1)]

/-- a scan of frames, and of what stands behind -/
theorem scanL_join (ls : List (List UInt8)) (p r : List UInt8) (f : Int) (h : okF f ls) :
    ∃ ys, scanL (p ++ (joinF f ls ++ r)) p.length f = placesF p.length ls ++ ys ∧ ys = scanP (p ++ (joinF f ls ++ r)) (p.length + sizeF ls + r.length + 1 - ls.length) (p.length + sizeF ls) (f + ls.length) ∧
      scanG (p ++ (joinF f ls ++ r)) p.length f = goodP (p ++ (joinF f ls ++ r)) (p.length + sizeF ls) ys := by
  have hc := ok_count ls f h
  have hL : (p ++ (joinF f ls ++ r)).length = p.length + sizeF ls + r.length := by rw [List.length_append, List.length_append, join_len]; omega
  have hi : ¬ ((p.length : Int) < 0 ∨ ((p ++ (joinF f ls ++ r)).length : Int) < (p.length : Int)) := by rw [hL]; omega
  have e : scanL (p ++ (joinF f ls ++ r)) p.length f = placesF p.length ls ++ scanP (p ++ (joinF f ls ++ r)) (p.length + sizeF ls + r.length + 1 - ls.length) (p.length + sizeF ls) (f + ls.length) := by
    unfold scanL
    rw [if_neg hi, Int.toNat_natCast, hL]
    have := scan_join ls p r f (p.length + sizeF ls + r.length + 1 - ls.length) h
    rw [show ls.length + (p.length + sizeF ls + r.length + 1 - ls.length) = p.length + sizeF ls + r.length + 1 by omega] at this
    exact this
  refine ⟨_, e, rfl, ?_⟩
  unfold scanG
  rw [if_neg hi, e, Int.toNat_natCast, good_app, good_join ls p r f h]
/-- nothing is read behind them -/
theorem scanL_stop (ls : List (List UInt8)) (p r : List UInt8) (f : Int) (h : okF f ls) (hb : fE (p ++ (joinF f ls ++ r)) (p.length + sizeF ls) ≠ 0) :
    scanL (p ++ (joinF f ls ++ r)) p.length f = placesF p.length ls ∧ scanG (p ++ (joinF f ls ++ r)) p.length f = p.length + sizeF ls := by
  obtain ⟨ys, e1, e2, e3⟩ := scanL_join ls p r f h
  rw [scan_stop _ _ _ _ hb] at e2
  rw [e1, e3, e2, List.append_nil]
  exact ⟨rfl, rfl⟩
theorem scanL_whole (ls : List (List UInt8)) (p : List UInt8) (f : Int) (h : okF f ls) :
    scanL (p ++ joinF f ls) p.length f = placesF p.length ls ∧ scanG (p ++ joinF f ls) p.length f = p.length + sizeF ls := by
  have := scanL_stop ls p [] f h (by
    have hL : (p ++ (joinF f ls ++ [])).length = p.length + sizeF ls := by rw [List.length_append, List.append_nil, join_len]
    unfold fE; rw [if_pos (by omega)]; decide)
  rw [List.append_nil] at this
  exact this
theorem scanL_cut (ls : List (List UInt8)) (p : List UInt8) (f : Int) (k : Nat) (h : okF f ls) (hk : p.length ≤ k) :
    scanL ((p ++ joinF f ls).take k) p.length f = placesF p.length (ls.take (wholeF p.length ls k)) ∧ scanG ((p ++ joinF f ls).take k) p.length f = p.length + sizeF (ls.take (wholeF p.length ls k)) := by
  obtain ⟨r, e1, e2⟩ := take_join ls p f k h hk
  have hw := whole_le ls p.length k
  have ho : okF f (ls.take (wholeF p.length ls k)) := by
    have := (ok_app (ls.take (wholeF p.length ls k)) (ls.drop (wholeF p.length ls k)) f).1
    rw [List.take_append_drop] at this
    exact (this h).1
  rw [e1]
  exact scanL_stop _ p r f ho (by rw [e2]; decide)
theorem ok_take {f : Int} {ls : List (List UInt8)} (h : okF f ls) (k : Nat) : okF f (ls.take k) := by
  have := (ok_app (ls.take k) (ls.drop k) f).1
  rw [List.take_append_drop] at this
  exact (this h).1
theorem good_ge (l : List UInt8) (k : Nat) : ∀ (a : Nat) (f : Int), a ≤ goodP l a (scanP l k a f) := by
  induction k with
  | zero => intro a f; exact Nat.le_refl _
  | succ k ih =>
    intro a f
    by_cases h : fGood l a f
    · have e : scanP l (k + 1) a f = a :: scanP l k (fNext l a) (f + 1) := by show (if _ then _ else _) = _; rw [if_pos h]
      rw [e]
      show a ≤ goodP l (fNext l a) (scanP l k (fNext l a) (f + 1))
      have := ih (fNext l a) (f + 1)
      unfold fNext at this ⊢
      omega
    · have e : scanP l (k + 1) a f = [] := by show (if _ then _ else _) = _; rw [if_neg h]
      rw [e]; exact Nat.le_refl _

end Go.Proofs.Ytkgcjelipllpdaa
