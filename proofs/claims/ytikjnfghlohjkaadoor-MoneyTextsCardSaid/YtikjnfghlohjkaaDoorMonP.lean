/- strings.Cut at "."; errors.Is(*NumError, ErrRange). (Groundwork for money.Parse at large.) -/
import Derived.Test.YtikjnfghlohjkaaDoorMonF
import Derived.Test.YtikjnfghlohjkaaDoorShelfC
namespace Go.Proofs.YtikjnfghlohjkaaDoor
open Go.RowKit Go.Shelf Go.Lib

def dot (s : ByteArray) : Int := Lib.indexByte s.data.toList 46
/-- the text cut at its first "." -/
def cutD (s : ByteArray) : ByteArray × ByteArray × Bool := if 0 ≤ dot s then (s.extract 0 (dot s).toNat, s.extract ((dot s).toNat + 1) s.size, true) else (s, ⟨#[]⟩, false)
theorem dot_lt (s : ByteArray) : dot s < s.size := by
  unfold dot
  have : ∀ l : List UInt8, Lib.indexByte l 46 < l.length ∨ Lib.indexByte l 46 = -1 := by
    intro l
    induction l with
    | nil => right; rfl
    | cons b l ih =>
      unfold Lib.indexByte
      split
      · left; simp
      · split
        · right; rfl
        · rename_i h1 h2
          have h3 : Lib.indexByte l 46 ≠ -1 := by simpa using h2
          left; simp only [List.length_cons]; omega
  rcases this s.data.toList with h | h
  · exact h
  · rw [h]; show (-1 : Int) < (s.size : Int); omega
set_option maxRecDepth 20000 in
theorem icut_any (s : ByteArray) (hs : s.size ≤ 1000000000) (w : World) : Calls Tryd.prog 43 #[.string s, .string ⟨#[46]⟩] w fun e w' => e = .returned (.tuple #[.string (cutD s).1, .string (cutD s).2.1, .bool (cutD s).2.2]) ∧ Below w.heap.size w w' := by
  have hl := dot_lt s
  have H := Lib.hid (show ∀ w, Calls Tryd.prog 60 #[.string s, .string ⟨#[46]⟩] w fun e w' => e = .returned (.int .i64 (dot s)) ∧ w' = w from fun w => Tryd.stringslite_Index_one s 46 w)
  by_cases h0 : 0 ≤ dot s
  · have HC := Lib.hid (show cutD s = (s.extract 0 (dot s).toNat, s.extract ((dot s).toNat + 1) s.size, true) from if_pos h0)
    obtain ⟨i, hi⟩ : ∃ i : Nat, dot s = i := ⟨(dot s).toNat, by omega⟩
    rw [hi] at H HC hl
    rw [Int.toNat_natCast] at HC
    have d1 : decide ((0 : Int) ≤ (i : Int)) = true := decide_eq_true (by omega)
    have g1 : (i : Int) ≤ (s.size : Int) := by omega
    have g2 : (i : Int) + 1 ≤ (s.size : Int) := by omega
    obtain ⟨j, hj⟩ : ∃ j : Nat, j = i + 1 := ⟨_, rfl⟩
    have ej : (i : Int) + 1 = (j : Int) := by omega
    have gj : (j : Int) ≤ (s.size : Int) := by omega
    rw [← hj] at HC
    clear h0 hi hj
    go_enter Tryd.func43, Tryd.ntmps43
    go_wp2_with fail
    refine (H.out _).mono ?_
    rintro e w1 ⟨rfl, rfl⟩
    go_wp2_with fail
    go_quiet (fail)
    go_wp2_with fail
    go_ret3
    refine ⟨by rw [HC.out]; rfl, ⟨(Below.refl w1.heap.size w1).os, (Below.refl w1.heap.size w1).tape, rfl, Nat.le_refl _, fun _ _ => rfl⟩⟩
  · have HC := Lib.hid (show cutD s = (s, ⟨#[]⟩, false) from if_neg h0)
    have d1 : decide ((0 : Int) ≤ dot s) = false := decide_eq_false h0
    obtain ⟨i, hi⟩ : ∃ i : Int, dot s = i := ⟨_, rfl⟩
    rw [hi] at H d1
    clear h0 hi hl
    go_enter Tryd.func43, Tryd.ntmps43
    go_wp2_with fail
    refine (H.out _).mono ?_
    rintro e w1 ⟨rfl, rfl⟩
    go_wp2_with fail
    go_ret3
    exact ⟨by rw [HC.out]; rfl, Below.refl _ _⟩
set_option maxRecDepth 20000 in
theorem cut_any (s : ByteArray) (hs : s.size ≤ 1000000000) (w : World) : Calls Tryd.prog 30 #[.string s, .string ⟨#[46]⟩] w fun e w' => e = .returned (.tuple #[.string (cutD s).1, .string (cutD s).2.1, .bool (cutD s).2.2]) ∧ Below w.heap.size w w' := by
  have H := Lib.hid (icut_any s hs w)
  generalize cutD s = c at *
  go_enter Tryd.func30, Tryd.ntmps30
  go_wp2_with fail
  refine H.out.mono ?_
  rintro e w1 ⟨rfl, hb⟩
  have HB := Lib.hid hb
  clear hb
  go_wp2_with fail
  go_ret3
  exact ⟨rfl, HB.out⟩
end Go.Proofs.YtikjnfghlohjkaaDoor
