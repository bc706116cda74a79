/- What is scanned of a segment, whole or cut short. -/
import Derived.Test.YtaonjbkkgeiniaaGreatDoorSgL
import Derived.Test.YtaonjbkkgeiniaaGreatDoorSegS
namespace Go.Proofs.YtaonjbkkgeiniaaGreatDoor
open Go.RowKit

/-- scanning l gives the first number f and the payloads ls -/
structure ScanIs (l : List UInt8) (f : Nat) (ls : List (List UInt8)) : Prop where
  hE : hdE l = 0
  hF : hdF l = f
  sL : scanL l 16 f = placesF 16 ls
  sG : scanG l 16 f = 16 + sizeF ls
  row : frRow (bs l) (placesF 16 ls) = rowF f 16 ls
theorem scan_is (s : ByteArray) (f : Nat) (ls : List (List UInt8)) (h : ScanIs s.data.toList f ls) (hs : s.size ≤ 1000000) (w : World) :
    Calls Tryz.prog 26 #[.string s] w fun e w' => ∃ oa cap, e = .returned (.tuple #[.agg (sgC (f : Int) (.slice oa ls.length cap) ((16 + sizeF ls : Nat) : Int) (decide (16 + sizeF ls = s.size))), .int .i64 0]) ∧
      w'.ownsRow w.heap.size 60 3 (.slice oa ls.length cap) ls.length (rowF f 16 ls) ∧ Below w.heap.size w w' := by
  have := sscan_ok s w hs h.hE
  rw [h.hF, h.sL, h.sG, places_len] at this
  have hr := h.row
  rw [bs_of] at hr
  rw [hr] at this
  exact this
theorem seg_cut (f : Nat) (hf : f ≤ 1048576) (ls : List (List UInt8)) (h : okF f ls) (k : Nat) (hk : 16 ≤ k) :
    ScanIs ((hdrL f ++ joinF f ls).take k) f (ls.take (wholeF 16 ls k)) := by
  have hl := hdr_len f
  obtain ⟨r, e1, e2⟩ := take_join ls (hdrL f) f k h (by rw [hl]; exact hk)
  have hc := scanL_cut ls (hdrL f) f k h (by rw [hl]; exact hk)
  rw [hl] at hc e1
  have hd := hd_made f (joinF f (ls.take (wholeF 16 ls k)) ++ r) hf
  refine ⟨?_, ?_, hc.1, hc.2, ?_⟩
  · rw [e1]; exact hd.1
  · rw [e1]; exact hd.2
  · have := row_join (ls.take (wholeF 16 ls k)) (bs ((hdrL f ++ joinF f ls).take k)) (hdrL f) r f (ok_take h _) (by rw [bs_data, e1])
    rw [hl] at this
    exact this
theorem seg_whole (f : Nat) (hf : f ≤ 1048576) (ls : List (List UInt8)) (h : okF f ls) : ScanIs (hdrL f ++ joinF f ls) f ls := by
  have hl := hdr_len f
  have hw := scanL_whole ls (hdrL f) f h
  rw [hl] at hw
  have hd := hd_made f (joinF f ls) hf
  refine ⟨hd.1, hd.2, hw.1, hw.2, ?_⟩
  have := row_join ls (bs (hdrL f ++ joinF f ls)) (hdrL f) [] f h (by rw [bs_data, List.append_nil])
  rw [hl] at this
  exact this

/-- how many segments Split makes, how long the last one is -/
def spC (most : Nat) : Nat × Nat → List Nat → Nat × Nat
  | st, [] => st
  | st, n :: ns => spC most (if 16 < st.2 ∧ most < st.2 + 16 + n then (st.1 + 1, 32 + n) else (st.1, st.2 + 16 + n)) ns
theorem spC_eq (most : Nat) : ∀ (ls : List (List UInt8)) (f : Nat) (st : List (List UInt8) × List UInt8), ((spS most f st ls).1.length, (spS most f st ls).2.length) = spC most (st.1.length, st.2.length) (ls.map List.length)
  | [], f, st => rfl
  | l :: ls, f, st => by
    show ((spS most (f + 1) (spStep most f st l) ls).1.length, (spS most (f + 1) (spStep most f st l) ls).2.length) = _
    rw [spC_eq most ls (f + 1) (spStep most f st l)]
    show _ = spC most (if 16 < st.2.length ∧ most < st.2.length + 16 + l.length then (st.1.length + 1, 32 + l.length) else (st.1.length, st.2.length + 16 + l.length)) (ls.map List.length)
    congr 1
    unfold spStep
    split
    · show ((st.1 ++ [st.2]).length, (hdrL f ++ frm f l).length) = _
      rw [List.length_append, List.length_append, hdr_len, frm_len, List.length_singleton]
      congr 1
      omega
    · show (st.1.length, (st.2 ++ frm f l).length) = _
      rw [List.length_append, frm_len]
      congr 1
      omega
theorem spL_count (most f : Nat) (ls : List (List UInt8)) : (spL most f ls).length = (spC most (0, 16) (ls.map List.length)).1 + 1 := by
  have h := spC_eq most ls f ([], hdrL f)
  have h1 := congrArg Prod.fst h
  dsimp only at h1
  rw [hdr_len] at h1
  unfold spL
  rw [List.length_append, h1]
  rfl
end Go.Proofs.YtaonjbkkgeiniaaGreatDoor
