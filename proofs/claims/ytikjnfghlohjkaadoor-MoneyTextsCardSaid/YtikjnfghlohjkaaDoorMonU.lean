/- money.Parse of a number that no uint64 holds; what is not bad is a number. -/
import Derived.Test.YtikjnfghlohjkaaDoorMonS
namespace Go.Proofs.YtikjnfghlohjkaaDoor
open Go.RowKit Go.Shelf Go.Lib

set_option maxRecDepth 20000 in
set_option maxHeartbeats 4000000 in
theorem parse_far (s W H : ByteArray) (hR : (pR s).size ≤ 1000) (hW : W.size ≤ 1000) (hH : H.size ≤ 1000) (hc : cutD (pR s) = (W, H, true)) (hg : ¬ pBad W H true) (hu : Lib.parseUintB 64 (W ++ H).data.toList = .range) (w : World) (hT : RngP w) :
    Calls Tryd.prog 17 #[.string s] w fun e w' => e = .returned (.tuple #[.int .i64 0, .int .i64 41]) ∧ Below w.heap.size w w' := by
  have K1 := Lib.hid (show ∀ w, Calls Tryd.prog 29 #[.string s, .string ⟨#[45]⟩] w fun e w' => e = .returned (.tuple #[.string (pR s), .bool (pM s)]) ∧ w' = w from Tryd.strings_CutPrefix s ⟨#[45]⟩)
  have K2 := Lib.hid (fun w => cut_any (pR s) (by omega) w)
  rw [hc] at K2
  have h1 : W.toList ≠ [] := fun h => hg (.inr (.inl h))
  have h2 : H.size = 2 := Decidable.byContradiction fun h => hg (.inr (.inr (.inl h)))
  have h3 : ¬ (1 < W.size ∧ ∃ _ : 0 < W.size, W[0].toNat = 48) := fun h => hg (.inr (.inr (.inr (.inl h))))
  have h4 : Lib.trimS (W ++ H).data.toList digL = [] := Decidable.byContradiction fun h => hg (.inr (.inr (.inr (.inr h))))
  have K3 := Lib.hid (show ∀ w, Calls Tryd.prog 31 #[.string (W ++ H), .string ⟨#[48, 49, 50, 51, 52, 53, 54, 55, 56, 57]⟩] w fun e w' => e = .returned (.string ⟨#[]⟩) ∧ Below w.heap.size w w' from fun w => by
    have h := Tryd.strings_Trim_laid (W ++ H) ⟨#[48, 49, 50, 51, 52, 53, 54, 55, 56, 57]⟩ w (by rw [ByteArray.size_append]; omega) (by decide) (ascii_of_all (by decide))
    rw [show Lib.trimS (W ++ H).data.toList (⟨#[48, 49, 50, 51, 52, 53, 54, 55, 56, 57]⟩ : ByteArray).data.toList = [] from h4] at h
    exact h)
  have hsz : (W ++ H).size ≤ 281474976710656 := by rw [ByteArray.size_append]; omega
  have K4 := Lib.hid (fun (p : Value) (w : World) hv => Tryd.strconv_ParseUint_range (W ++ H) hsz hu 126 p w hv)
  have HT := Lib.hid hT
  have H3 := Lib.hid h3
  have d1 : W.toList.isEmpty = false := by cases hl : W.toList with | nil => exact absurd hl h1 | cons a b => rfl
  have d2 : ((H.size : Int) != 2) = false := by rw [h2]; rfl
  generalize pR s = R at *
  generalize pM s = M at *
  clear hc hg hu h1 h2 h3 h4 hT hsz
  go_enter Tryd.func17, Tryd.ntmps17
  go_wp2_with fail
  refine (K1.out _).mono ?_
  rintro e w1 ⟨rfl, rfl⟩
  go_wp2_with fail
  refine (K2.out _).mono ?_
  rintro e w2 ⟨rfl, hb2⟩
  have HB2 := Lib.hid hb2
  clear hb2
  go_wp2_with fail
  all_goals first
    | (exfalso; refine H3.out ⟨by omega, by omega, by omega⟩)
    | skip
  all_goals
    refine (K3.out _).mono ?_
    rintro e w3 ⟨rfl, hb3⟩
    have HB3 := Lib.hid (bel_trans HB2.out hb3)
    clear hb3
    go_wp2_with fail
    obtain ⟨p, hp⟩ := HT.out.keep HB3.out
    refine (K4.out (.pointer (some p)) _ (hp _ (Below.refl _ _))).mono ?_
    rintro e w4 ⟨N, rfl, hN, hrow, hb4⟩
    have HB4 := Lib.hid (bel_trans HB3.out hb4)
    have g0 : w4.cell? ⟨0, 0, none⟩ = some (.iface 126 (.pointer (some p))) := by
      have h0 := World.var?_cell (show Tryd.prog.globalNamed "strconv.ErrRange" = some 0 by kernel_rfl) (hp w4 hb4) 0
      simpa using h0
    have HN := Lib.hid (show w4.cell? ⟨N, 2, none⟩ = some (.iface 126 (.pointer (some p))) by rw [cell_of_row _ _ _ _ _ _ hrow]; rfl)
    clear hb4 hrow hN hp
    go_wp2_with fail
    refine (Is_num N p _ HN.out).mono ?_
    rintro e w5 ⟨rfl, rfl⟩
    go_wp2_with fail
    go_ret2
    exact ⟨rfl, HB4.out⟩

theorem num_or : ∀ (l : List UInt8) (acc : Nat), (∀ b ∈ l, 48 ≤ b.toNat ∧ b.toNat ≤ 57) → (∃ u, Lib.parseUintM (2 ^ 64 - 1) acc l = .ok u) ∨ Lib.parseUintM (2 ^ 64 - 1) acc l = .range
  | [], acc, _ => .inl ⟨acc, rfl⟩
  | c :: r, acc, h => by
    have hc := h c (List.mem_cons_self ..)
    unfold Lib.parseUintM
    rw [if_pos hc]
    split
    · exact .inr rfl
    · split
      · exact .inr rfl
      · exact num_or r _ (fun b hb => h b (List.mem_cons_of_mem _ hb))
end Go.Proofs.YtikjnfghlohjkaaDoor
