/- What is scanned of any bytes, joined again, is the bytes. -/
import Derived.Test.YtaonjbkkgeiniaaGreatDoorSgA
import Derived.Test.YtaonjbkkgeiniaaGreatDoorSegN
namespace Go.Proofs.YtaonjbkkgeiniaaGreatDoor
open Go.RowKit

theorem scanP_all (l : List UInt8) : ∀ (k a : Nat) (f : Int), a ≤ l.length →
    ∃ ls, scanP l k a f = placesF a ls ∧ okF f ls ∧ sl l a (sizeF ls) = joinF f ls ∧ a + sizeF ls ≤ l.length ∧ goodP l a (scanP l k a f) = a + sizeF ls := by
  intro k
  induction k with
  | zero => intro a f ha; exact ⟨[], rfl, trivial, by show sl l a 0 = []; unfold sl; simp, ha, rfl⟩
  | succ k ih =>
    intro a f ha
    by_cases hg : fGood l a f
    case neg =>
      have e : scanP l (k + 1) a f = [] := by show (if fGood l a f then _ else _) = _; rw [if_neg hg]
      rw [e]
      exact ⟨[], rfl, trivial, by show sl l a 0 = []; unfold sl; simp, ha, rfl⟩
    have e : scanP l (k + 1) a f = a :: scanP l k (fNext l a) (f + 1) := by show (if fGood l a f then _ else _) = _; rw [if_pos hg]
    obtain ⟨hE, hQ⟩ := hg
    obtain ⟨g1, ⟨⟨g2, g3⟩, g4⟩, g5, _⟩ := fE_zero hE
    obtain ⟨b1, b2⟩ := frame_back l a hE
    obtain ⟨ls, i1, i2, i3, i4, i5⟩ := ih (fNext l a) (f + 1) g5
    have hn : fNext l a = a + 16 + fN l a := rfl
    refine ⟨sl l (a + 16) (fN l a) :: ls, ?_, ⟨⟨by omega, by omega, by rw [b2]; exact g2, by rw [b2]; exact g3⟩, i2⟩, ?_, ?_, ?_⟩
    · rw [e]
      show _ = a :: placesF (a + 16 + (sl l (a + 16) (fN l a)).length) ls
      rw [b2, i1, hn]
    · show sl l a (16 + (sl l (a + 16) (fN l a)).length + sizeF ls) = frm f.toNat (sl l (a + 16) (fN l a)) ++ joinF (f + 1) ls
      rw [b2, ← sl_append, ← b1, ← i3, hn, ← hQ, Int.toNat_natCast, Nat.add_assoc]
    · show a + (16 + (sl l (a + 16) (fN l a)).length + sizeF ls) ≤ _
      rw [b2]
      omega
    · rw [e]
      show goodP l (fNext l a) _ = a + (16 + (sl l (a + 16) (fN l a)).length + sizeF ls)
      rw [b2, i5, hn]
      omega
theorem hdr_back {l : List UInt8} (h : hdE l = 0) : l.take 16 = hdrL (hdF l) := by
  obtain ⟨h1, h2, h3, _⟩ := hd_ok h
  have e : sealL ((l.take 16).take ((l.take 16).length - 4)) = l.take 16 := by
    unfold isSealed at h3
    exact eq_of_beq h3
  rw [List.length_take, Nat.min_eq_left h1, List.take_take, show min (16 - 4) 16 = 4 + 8 by decide, List.take_add, h2] at e
  rw [← e]
  unfold hdrL hdF
  rw [be8_num (sl l 4 8) (sl_length _ _ _ (by omega))]
  rfl
/-- the segment up to Good -/
theorem scan_all {l : List UInt8} (h : hdE l = 0) (hs : l.length ≤ 1000000) : ∃ ls, ScanIs l (hdF l) ls ∧ jnE (hdF l) ls = 0 ∧ 16 + sizeF ls ≤ l.length ∧ l.take (16 + sizeF ls) = hdrL (hdF l) ++ joinF (hdF l) ls := by
  obtain ⟨h1, _, _, h4⟩ := hd_ok h
  obtain ⟨ls, i1, i2, i3, i4, i5⟩ := scanP_all l (l.length + 1) 16 (hdF l) h1
  have eL : scanL l 16 (hdF l) = placesF 16 ls := by
    unfold scanL
    rw [if_neg (by omega)]
    exact i1
  have eG : scanG l 16 (hdF l) = 16 + sizeF ls := by
    unfold scanG
    rw [if_neg (by omega), eL, ← i5, ← i1]
    rfl
  have eT : l.take (16 + sizeF ls) = hdrL (hdF l) ++ joinF (hdF l) ls := by
    rw [List.take_add, hdr_back h, ← i3]
    rfl
  have eR : l = hdrL (hdF l) ++ (joinF (hdF l) ls ++ l.drop (16 + sizeF ls)) := by
    rw [← List.append_assoc, ← eT, List.take_append_drop]
  refine ⟨ls, ⟨h, rfl, eL, eG, ?_⟩, ?_, i4, eT⟩
  · have := row_join ls (bs l) (hdrL (hdF l)) (l.drop (16 + sizeF ls)) (hdF l) i2 (by rw [bs_data]; exact eR)
    rw [hdr_len] at this
    exact this
  · have hp : ∀ l' ∈ ls, payOk l' := by
      have : ∀ (ls : List (List UInt8)) (f : Int), okF f ls → ∀ l' ∈ ls, payOk l' := by
        intro ls
        induction ls with
        | nil => intro f _ l' hl; cases hl
        | cons a ls ih =>
          intro f hk l' hl
          rcases List.mem_cons.1 hl with rfl | hl
          · exact hk.1.2.2
          · exact ih _ hk.2 l' hl
      exact this ls _ i2
    have hf : (hdF l : Int) + ls.length ≤ 1048576 := by
      by_cases h0 : 0 < ls.length
      · exact (ok_first i2 h0).2
      · omega
    unfold jnE
    rw [if_neg (by omega), if_neg (fun ⟨l', h1, h2⟩ => h2 (hp l' h1)), if_neg (by omega), if_neg (by omega)]
theorem rowF_text (ls : List (List UInt8)) (f : Int) (a i : Nat) (h : i < ls.length) (hk : okF f ls) : (rowF f a ls)[i * 3 + 1]? = some (.string ((ls.map bs).getD i ByteArray.empty)) := by
  have := (rowF_get ls f a i h hk).2.1
  rw [Nat.mul_comm] at this
  rw [this, List.getD_eq_getElem?_getD, List.getElem?_map, List.getElem?_eq_getElem h]
  rfl
theorem pays_bs (ls : List (List UInt8)) : paysL (ls.map bs) = ls := by
  unfold paysL
  rw [List.map_map]
  exact (List.map_congr_left (fun l _ => bs_data l)).trans (List.map_id _)
theorem bs_pays (z : List ByteArray) : (paysL z).map bs = z := by
  unfold paysL
  rw [List.map_map]
  exact (List.map_congr_left (fun l _ => bs_of l)).trans (List.map_id _)
end Go.Proofs.YtaonjbkkgeiniaaGreatDoor
