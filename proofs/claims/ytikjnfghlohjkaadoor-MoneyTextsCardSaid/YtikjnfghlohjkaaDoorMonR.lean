/- money.Parse at large. -/
import Derived.Test.YtikjnfghlohjkaaDoorMonQ
namespace Go.Proofs.YtikjnfghlohjkaaDoor
open Go.RowKit Go.Shelf Go.Lib

def pR (s : ByteArray) : ByteArray := ⟨(Lib.trimPrefix s.data.toList [45]).toArray⟩
def pM (s : ByteArray) : Bool := Lib.hasPrefix s.data.toList [45]
def digL : List UInt8 := [48, 49, 50, 51, 52, 53, 54, 55, 56, 57]
/-- what is no number with two places behind the point -/
def pBad (W H : ByteArray) (is : Bool) : Prop := is = false ∨ W.toList = [] ∨ H.size ≠ 2 ∨ (1 < W.size ∧ ∃ _ : 0 < W.size, W[0].toNat = 48) ∨ Lib.trimS (W ++ H).data.toList digL ≠ []
/-- strconv.ErrRange, and that it stays -/
def RngP (w : World) : Prop := ∃ p, ∀ w', Below w.heap.size w w' → w'.var? Tryd.prog "strconv.ErrRange" = some #[.iface 126 (.pointer (some p))]
theorem RngP.keep {w w' : World} (h : RngP w) (hb : Below w.heap.size w w') : RngP w' := by
  obtain ⟨p, h⟩ := h
  exact ⟨p, fun w2 h2 => h w2 (bel_trans hb h2)⟩
set_option maxRecDepth 20000 in
set_option maxHeartbeats 2000000 in
theorem parse_bad (s W H : ByteArray) (is : Bool) (hR : (pR s).size ≤ 1000) (hW : W.size ≤ 1000) (hH : H.size ≤ 1000) (hc : cutD (pR s) = (W, H, is)) (hbad : pBad W H is) (w : World) :
    Calls Tryd.prog 17 #[.string s] w fun e w' => e = .returned (.tuple #[.int .i64 0, .int .i64 4]) ∧ Below w.heap.size w w' := by
  have K1 := Lib.hid (show ∀ w, Calls Tryd.prog 29 #[.string s, .string ⟨#[45]⟩] w fun e w' => e = .returned (.tuple #[.string (pR s), .bool (pM s)]) ∧ w' = w from Tryd.strings_CutPrefix s ⟨#[45]⟩)
  have K2 := Lib.hid (fun w => cut_any (pR s) (by omega) w)
  rw [hc] at K2
  obtain ⟨t, ht⟩ : ∃ t : ByteArray, (⟨(Lib.trimS (W ++ H).data.toList digL).toArray⟩ : ByteArray) = t := ⟨_, rfl⟩
  have K3 := Lib.hid (show ∀ w, Calls Tryd.prog 31 #[.string (W ++ H), .string ⟨#[48, 49, 50, 51, 52, 53, 54, 55, 56, 57]⟩] w fun e w' => e = .returned (.string t) ∧ Below w.heap.size w w' from fun w => by
    have h := Tryd.strings_Trim_laid (W ++ H) ⟨#[48, 49, 50, 51, 52, 53, 54, 55, 56, 57]⟩ w (by rw [ByteArray.size_append]; omega) (by decide) (ascii_of_all (by decide))
    rw [show (⟨(Lib.trimS (W ++ H).data.toList (⟨#[48, 49, 50, 51, 52, 53, 54, 55, 56, 57]⟩ : ByteArray).data.toList).toArray⟩ : ByteArray) = t from ht] at h
    exact h)
  have HBAD := Lib.hid hbad
  have HT := Lib.hid ht
  generalize pR s = R at *
  generalize pM s = M at *
  clear hc hbad ht
  go_enter Tryd.func17, Tryd.ntmps17
  go_wp2_with fail
  refine (K1.out _).mono ?_
  rintro e w1 ⟨rfl, rfl⟩
  go_wp2_with fail
  refine (K2.out _).mono ?_
  rintro e w2 ⟨rfl, hb2⟩
  have HB2 := Lib.hid hb2
  clear hb2
  cases is
  · go_wp2_with fail
    go_ret2
    exact ⟨rfl, HB2.out⟩
  · go_wp2_with fail
    all_goals first
      | (go_ret2; exact ⟨rfl, HB2.out⟩)
      | skip
    all_goals
      have hne : Lib.trimS (W ++ H).data.toList digL ≠ [] := by
        rcases HBAD.out with h | h | h | ⟨h, h', h2⟩ | h
        · cases h
        · contradiction
        · omega
        · omega
        · exact h
      have d1 : t.toList.isEmpty = false := by
        rw [← HT.out, ByteArray.toList_eq]
        simpa using hne
      have d2 : (t.toList == ([] : List UInt8)) = false := by
        cases hl : t.toList with
        | nil => rw [hl] at d1; cases d1
        | cons a b => rfl
      clear hne HBAD HT
      refine (K3.out _).mono ?_
      rintro e w3 ⟨rfl, hb3⟩
      have HB3 := Lib.hid (bel_trans HB2.out hb3)
      clear hb3
      go_wp2_with fail
      go_ret2
      exact ⟨rfl, HB3.out⟩
end Go.Proofs.YtikjnfghlohjkaaDoor
