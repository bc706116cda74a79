/- What the condition of the Seg rows gives a walk. -/
import Derived.Test.YtaonjbkkgeiniaaGreatDoorSgO
import Derived.Test.YtaonjbkkgeiniaaGreatDoorRows
import Derived.LaidLaws
import Derived.Stop.LaidErr
namespace Go.Proofs.YtaonjbkkgeiniaaGreatDoor
open Go.RowKit Go.Shelf Go.Lib

theorem pow_data : (Rows.laid_internal_strconv_uint64pow10 : DataW Unit) = Lib.tabData .u64 Lib.pow10Tab := by kernel_rfl
theorem laid_all {W : World} (h : laidMetH Tryz.prog Rows.segNamesRow.laid W) : laidMet Tryz.prog Rows.segNamesRow.laid W := h
theorem pow_of_laid {W : World} (h : laidMetH Tryz.prog Rows.segNamesRow.laid W) : PowT W := by
  have h3 := (show laidMet Tryz.prog (("math/bits.deBruijn32tab", Rows.laid_math_bits_deBruijn32tab) :: ("math/bits.deBruijn64tab", Rows.laid_math_bits_deBruijn64tab) :: ("internal/strconv.uint64pow10", Rows.laid_internal_strconv_uint64pow10) :: Rows.segNamesRow.laid.drop 3) W from laid_all h).tail.tail
  rw [pow_data] at h3
  exact Lib.tabIs_of_head (g := 3) (t := 180) (e := 79) (n := 20) (by kernel_rfl) (by kernel_rfl) Tryz.underlying180 Tryz.underlying79 (by kernel_rfl) (by kernel_rfl) h3
theorem star : "*errors.errorString" = "*" ++ "errors.errorString" := by decide
theorem rowS (u : TypeId) (h : Tryz.prog.typeName? 3 u = some "*errors.errorString") : u = 176 :=
  typeName_ptr_named (nm := "errors.errorString") (by rw [← star]; kernel_rfl) (by kernel_rfl) (by decide) u (by rw [← star]; exact h)
theorem errv_keep {W : World} {nm : String} {g : Nat} {x : Value} (hg : Tryz.prog.globalNamed nm = some g) (hv : W.var? Tryz.prog nm = some #[x]) : ∀ w', Below W.heap.size W w' → w'.var? Tryz.prog nm = some #[x] := by
  intro w' hb
  have hc := World.var?_cell hg hv 0
  have hlt : g < W.heap.size := cell_lt (off := 0) (by simpa using hc)
  have hblk := hb.block g hlt
  unfold World.var? at hv ⊢
  rw [hg] at hv ⊢
  simp only [Option.bind_some] at hv ⊢
  rw [hblk]
  exact hv
theorem rng_of_laid {W : World} (h : laidMetH Tryz.prog Rows.segNamesRow.laid W) : ErrV "strconv.ErrRange" W := by
  have h3 := (show laidMet Tryz.prog (("math/bits.deBruijn32tab", Rows.laid_math_bits_deBruijn32tab) :: ("math/bits.deBruijn64tab", Rows.laid_math_bits_deBruijn64tab) :: ("internal/strconv.uint64pow10", Rows.laid_internal_strconv_uint64pow10) :: ("strconv.ErrRange", Rows.laid_strconv_ErrRange) :: Rows.segNamesRow.laid.drop 4) W from laid_all h).tail.tail.tail
  obtain ⟨a, s, hv, _, _, _⟩ := laid_sentinel (g := 2) h3 (by kernel_rfl) (by kernel_rfl) Tryz.underlying70 rowS Tryz.underlying176 Tryz.underlying178 rfl rfl Tryz.underlying9 (by kernel_rfl) (by kernel_rfl)
  exact ⟨_, _, errv_keep (show Tryz.prog.globalNamed "strconv.ErrRange" = some 2 by kernel_rfl) hv⟩
theorem syn_of_laid {W : World} (h : laidMetH Tryz.prog Rows.segNamesRow.laid W) : ErrV "strconv.ErrSyntax" W := by
  have h3 := (show laidMet Tryz.prog (("math/bits.deBruijn32tab", Rows.laid_math_bits_deBruijn32tab) :: ("math/bits.deBruijn64tab", Rows.laid_math_bits_deBruijn64tab) :: ("internal/strconv.uint64pow10", Rows.laid_internal_strconv_uint64pow10) :: ("strconv.ErrRange", Rows.laid_strconv_ErrRange) :: ("strconv.ErrSyntax", Rows.laid_strconv_ErrSyntax) :: Rows.segNamesRow.laid.drop 5) W from laid_all h).tail.tail.tail.tail
  obtain ⟨a, s, hv, _, _, _⟩ := laid_sentinel (g := 1) h3 (by kernel_rfl) (by kernel_rfl) Tryz.underlying70 rowS Tryz.underlying176 Tryz.underlying178 rfl rfl Tryz.underlying9 (by kernel_rfl) (by kernel_rfl)
  exact ⟨_, _, errv_keep (show Tryz.prog.globalNamed "strconv.ErrSyntax" = some 1 by kernel_rfl) hv⟩
theorem laid_of {W : World} (h : laidMetH Tryz.prog Rows.segNamesRow.laid W) : Laid W := ⟨pow_of_laid h, syn_of_laid h, rng_of_laid h⟩
end Go.Proofs.YtaonjbkkgeiniaaGreatDoor
