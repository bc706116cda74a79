/- strconv.ErrRange out of the condition; money.Parse, whatever the text: its ways. -/
import Derived.Test.YtikjnfghlohjkaaDoorMonV
import Derived.Test.YtikjnfghlohjkaaDoorMonG
import Derived.LaidLaws
import Derived.Stop.LaidErr
namespace Go.Proofs.YtikjnfghlohjkaaDoor
open Go.RowKit Go.Shelf Go.Lib

theorem star : "*errors.errorString" = "*" ++ "errors.errorString" := by decide
theorem rowS (u : TypeId) (h : Tryd.prog.typeName? 3 u = some "*errors.errorString") : u = 126 :=
  typeName_ptr_named (nm := "errors.errorString") (by rw [← star]; kernel_rfl) (by kernel_rfl) (by decide) u (by rw [← star]; exact h)
theorem rngP_of_laid {W : World} (h : laidMetH Tryd.prog Rows.moneyCapRow.laid W) : RngP W := by
  have h3 := (show laidMet Tryd.prog (("math/bits.deBruijn32tab", Rows.laid_math_bits_deBruijn32tab) :: ("math/bits.deBruijn64tab", Rows.laid_math_bits_deBruijn64tab) :: ("internal/strconv.uint64pow10", Rows.laid_internal_strconv_uint64pow10) :: ("unicode/utf8.acceptRanges", Rows.laid_unicode_utf8_acceptRanges) :: ("strconv.ErrRange", Rows.laid_strconv_ErrRange) :: Rows.moneyCapRow.laid.drop 5) W from laid_all h).tail.tail.tail.tail
  obtain ⟨a, s, hv, _, _, _⟩ := laid_sentinel (g := 0) h3 (by kernel_rfl) (by kernel_rfl) Tryd.underlying51 rowS Tryd.underlying126 Tryd.underlying128 rfl rfl Tryd.underlying9 (by kernel_rfl) (by kernel_rfl)
  refine ⟨a, fun w' hb => ?_⟩
  have hg : Tryd.prog.globalNamed "strconv.ErrRange" = some 0 := by kernel_rfl
  have hc := World.var?_cell hg hv 0
  have hlt : 0 < W.heap.size := cell_lt (off := 0) (by simpa using hc)
  have hblk := hb.block 0 hlt
  unfold World.var? at hv ⊢
  rw [hg] at hv ⊢
  simp only [Option.bind_some] at hv ⊢
  rw [hblk]
  exact hv
/-- money.Parse, of what it gives -/
def ParG (s : ByteArray) (v e : Int) : Prop := ∀ w, RngP w → RngT w → Calls Tryd.prog 17 #[.string s] w fun r w' => r = .returned (.tuple #[.int .i64 v, .int .i64 e]) ∧ Below w.heap.size w w'
theorem cutD_size (s : ByteArray) : (cutD s).1.size ≤ s.size ∧ (cutD s).2.1.size ≤ s.size := by
  unfold cutD
  split
  · exact ⟨by simp only [ByteArray.size_extract]; omega, by simp only [ByteArray.size_extract]; omega⟩
  · exact ⟨Nat.le_refl _, Nat.zero_le _⟩
theorem pR_size (s : ByteArray) : (pR s).size ≤ s.size := by
  have h : s.data.toList.length = s.size := rfl
  show (Lib.trimPrefix s.data.toList [45]).toArray.size ≤ s.size
  rw [List.size_toArray, ← h]
  unfold Lib.trimPrefix
  split
  · rw [List.length_drop]; exact Nat.sub_le _ _
  · exact Nat.le_refl _
theorem parse_ways (s : ByteArray) (hs : s.size ≤ 1000) :
    (pBad (cutD (pR s)).1 (cutD (pR s)).2.1 (cutD (pR s)).2.2 ∧ ParG s 0 4) ∨
    (¬ pBad (cutD (pR s)).1 (cutD (pR s)).2.1 (cutD (pR s)).2.2 ∧ Lib.parseUintB 64 ((cutD (pR s)).1 ++ (cutD (pR s)).2.1).data.toList = .range ∧ ParG s 0 41) ∨
    (¬ pBad (cutD (pR s)).1 (cutD (pR s)).2.1 (cutD (pR s)).2.2 ∧ ∃ u, Lib.parseUintB 64 ((cutD (pR s)).1 ++ (cutD (pR s)).2.1).data.toList = .ok u ∧ ParG s (pV (pM s) u) (pE (pM s) u)) := by
  have hR := pR_size s
  have hC := cutD_size (pR s)
  obtain ⟨W, H, is, hc⟩ : ∃ W H is, cutD (pR s) = (W, H, is) := ⟨_, _, _, rfl⟩
  rw [hc] at hC ⊢
  dsimp only at hC ⊢
  by_cases hb : pBad W H is
  · exact .inl ⟨hb, fun w _ _ => parse_bad s W H is (by omega) (by omega) (by omega) hc hb w⟩
  · have his : is = true := by
      cases is
      · exact absurd (.inl rfl) hb
      · rfl
    subst his
    rcases num_of W H true hb with ⟨u, hu⟩ | hu
    · refine .inr (.inr ⟨hb, u, hu, fun w _ hT => ?_⟩)
      have hul : u < 18446744073709551616 := by
        have := Lib.parseUintB_le hu
        have e : 2 ^ 64 - 1 = 18446744073709551615 := rfl
        omega
      exact parse_ok s W H u (by omega) (by omega) (by omega) hc hb hu hul w hT
    · exact .inr (.inl ⟨hb, hu, fun w hT _ => parse_far s W H (by omega) (by omega) (by omega) hc hb hu w hT⟩)
end Go.Proofs.YtikjnfghlohjkaaDoor
