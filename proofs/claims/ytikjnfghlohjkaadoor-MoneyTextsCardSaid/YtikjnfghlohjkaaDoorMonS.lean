/- money.Parse of a number; of one that is too far. -/
import Derived.Test.YtikjnfghlohjkaaDoorMonR
namespace Go.Proofs.YtikjnfghlohjkaaDoor
open Go.RowKit Go.Shelf Go.Lib

def pV (M : Bool) (u : Nat) : Int := if 4611686018427387904 < u then 0 else if M = true ∧ u = 0 then 0 else if M = true then -(u : Int) else u
def pE (M : Bool) (u : Nat) : Int := if 4611686018427387904 < u then 41 else if M = true ∧ u = 0 then 4 else 0
set_option maxRecDepth 20000 in
set_option maxHeartbeats 4000000 in
theorem parse_ok (s W H : ByteArray) (u : Nat) (hR : (pR s).size ≤ 1000) (hW : W.size ≤ 1000) (hH : H.size ≤ 1000) (hc : cutD (pR s) = (W, H, true)) (hg : ¬ pBad W H true) (hu : Lib.parseUintB 64 (W ++ H).data.toList = .ok u) (hul : u < 18446744073709551616) (w : World) (hT : RngT w) :
    Calls Tryd.prog 17 #[.string s] w fun e w' => e = .returned (.tuple #[.int .i64 (pV (pM s) u), .int .i64 (pE (pM s) u)]) ∧ Below w.heap.size w w' := by
  have K1 := Lib.hid (show ∀ w, Calls Tryd.prog 29 #[.string s, .string ⟨#[45]⟩] w fun e w' => e = .returned (.tuple #[.string (pR s), .bool (pM s)]) ∧ w' = w from Tryd.strings_CutPrefix s ⟨#[45]⟩)
  have K2 := Lib.hid (fun w => cut_any (pR s) (by omega) w)
  rw [hc] at K2
  have h1 : W.toList ≠ [] := fun h => hg (.inr (.inl h))
  have h2 : H.size = 2 := Decidable.byContradiction fun h => hg (.inr (.inr (.inl h)))
  have h3 : ¬ (1 < W.size ∧ ∃ _ : 0 < W.size, W[0].toNat = 48) := fun h => hg (.inr (.inr (.inr (.inl h))))
  have h4 : Lib.trimS (W ++ H).data.toList digL = [] := Decidable.byContradiction fun h => hg (.inr (.inr (.inr (.inr h))))
  have K3 := Lib.hid (show ∀ w, Calls Tryd.prog 31 #[.string (W ++ H), .string ⟨#[48, 49, 50, 51, 52, 53, 54, 55, 56, 57]⟩] w fun e w' => e = .returned (.string ⟨#[]⟩) ∧ Below w.heap.size w w' from fun w => by
    have h := Tryd.strings_Trim_laid (W ++ H) ⟨#[48, 49, 50, 51, 52, 53, 54, 55, 56, 57]⟩ w (by rw [ByteArray.size_append]; omega) (by decide) (ascii_of_all (by decide))
    rw [show Lib.trimS (W ++ H).data.toList (⟨#[48, 49, 50, 51, 52, 53, 54, 55, 56, 57]⟩ : ByteArray).data.toList = [] from h4] at h
    exact h)
  have K4 := Lib.hid (show ∀ w, Calls Tryd.prog 32 #[.string (W ++ H), .int .i64 10, .int .i64 64] w fun e w' => e = .returned (.tuple #[.int .u64 u, .nilIface]) ∧ Below w.heap.size w w' from fun w => by
    refine (Tryd.strconv_ParseUint_ok (W ++ H) (by rw [ByteArray.size_append]; omega) u hu w).mono ?_
    rintro e w' ⟨rfl, rfl | rfl⟩
    · exact ⟨rfl, Below.refl _ _⟩
    · exact ⟨rfl, Lib.bytesWorld_below _ _ _⟩)
  have HE := Lib.hid (show ∀ a b : Int, a = pV (pM s) u → b = pE (pM s) u → Ending.returned (.tuple #[.int .i64 a, .int .i64 b]) = .returned (.tuple #[.int .i64 (pV (pM s) u), .int .i64 (pE (pM s) u)]) from fun _ _ => told_eq)
  have HT := Lib.hid hT
  have H3 := Lib.hid h3
  have d1 : W.toList.isEmpty = false := by cases hl : W.toList with | nil => exact absurd hl h1 | cons a b => rfl
  have d2 : ((H.size : Int) != 2) = false := by rw [h2]; rfl
  generalize pR s = R at *
  generalize pM s = M at *
  clear hc hg hu h1 h2 h3 h4 hT
  have hM : (4611686018427387904 < u ∧ decide ((4611686018427387904 : Int) < (u : Int)) = true) ∨ (u ≤ 4611686018427387904 ∧ decide ((4611686018427387904 : Int) < (u : Int)) = false ∧ ((u = 0 ∧ ((u : Int) == 0) = true) ∨ (u ≠ 0 ∧ ((u : Int) == 0) = false))) := by
    by_cases h : 4611686018427387904 < u
    · exact .inl ⟨h, decide_eq_true (by omega)⟩
    · refine .inr ⟨by omega, decide_eq_false (by omega), ?_⟩
      by_cases h0 : u = 0
      · exact .inl ⟨h0, by rw [h0]; rfl⟩
      · exact .inr ⟨h0, by rw [beq_eq_false_iff_ne]; omega⟩
  have HM := Lib.hid hM
  clear hM
  go_enter Tryd.func17, Tryd.ntmps17
  go_wp2_with fail
  refine (K1.out _).mono ?_
  rintro e w1 ⟨rfl, rfl⟩
  go_wp2_with fail
  refine (K2.out _).mono ?_
  rintro e w2 ⟨rfl, hb2⟩
  have HB2 := Lib.hid hb2
  clear hb2
  go_wp2_with fail
  all_goals first
    | (exfalso; refine H3.out ⟨by omega, by omega, by omega⟩)
    | skip
  all_goals
    refine (K3.out _).mono ?_
    rintro e w3 ⟨rfl, hb3⟩
    have HB3 := Lib.hid (bel_trans HB2.out hb3)
    clear hb3
    go_wp2_with fail
    refine (K4.out _).mono ?_
    rintro e w4 ⟨rfl, hb4⟩
    have HB4 := Lib.hid (bel_trans HB3.out hb4)
    clear hb4
    obtain ⟨t, y, g0⟩ := HT.out.keep HB4.out
    go_wp2_with fail
    refine (is_nil _ _ _).mono ?_
    rintro e w5 ⟨rfl, rfl⟩
    rcases HM.out with ⟨c1, c2⟩ | ⟨c1, c2, ⟨c3, c4⟩ | ⟨c3, c4⟩⟩
    all_goals
      cases M
      all_goals
        go_wp2_with fail
        go_ret2
        exact ⟨HE.out _ _ (by unfold pV; simp <;> omega) (by unfold pE; simp <;> omega), HB4.out⟩
end Go.Proofs.YtikjnfghlohjkaaDoor
