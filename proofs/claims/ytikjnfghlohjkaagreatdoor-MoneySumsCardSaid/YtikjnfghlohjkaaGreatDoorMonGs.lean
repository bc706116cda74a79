/- What the condition of the Money rows gives a walk. -/
import Derived.Test.YtikjnfghlohjkaaGreatDoorMonF
import Derived.Test.YtikjnfghlohjkaaGreatDoorRows
import Derived.LaidLaws
import Derived.Stop.LaidErr
namespace Go.Proofs.YtikjnfghlohjkaaGreatDoor
open Go.RowKit Go.Shelf Go.Lib

theorem pow_data : (Rows.laid_internal_strconv_uint64pow10 : DataW Unit) = Lib.tabData .u64 Lib.pow10Tab := by kernel_rfl
theorem laid_all {W : World} (h : laidMetH Tryz.prog Rows.moneySumsRow.laid W) : laidMet Tryz.prog Rows.moneySumsRow.laid W := h
theorem pow_of_laid {W : World} (h : laidMetH Tryz.prog Rows.moneySumsRow.laid W) : PowT W := by
  have h3 := (show laidMet Tryz.prog (("math/bits.deBruijn32tab", Rows.laid_math_bits_deBruijn32tab) :: ("math/bits.deBruijn64tab", Rows.laid_math_bits_deBruijn64tab) :: ("internal/strconv.uint64pow10", Rows.laid_internal_strconv_uint64pow10) :: Rows.moneySumsRow.laid.drop 3) W from laid_all h).tail.tail
  rw [pow_data] at h3
  exact Lib.tabIs_of_head (g := 5) (t := 107) (e := 34) (n := 20) (by kernel_rfl) (by kernel_rfl) Tryz.underlying107 Tryz.underlying34 (by kernel_rfl) (by kernel_rfl) h3
theorem rng_of_laid {W : World} (h : laidMetH Tryz.prog Rows.moneySumsRow.laid W) : RngT W := by
  have h3 := (show laidMet Tryz.prog (("math/bits.deBruijn32tab", Rows.laid_math_bits_deBruijn32tab) :: ("math/bits.deBruijn64tab", Rows.laid_math_bits_deBruijn64tab) :: ("internal/strconv.uint64pow10", Rows.laid_internal_strconv_uint64pow10) :: ("unicode/utf8.acceptRanges", Rows.laid_unicode_utf8_acceptRanges) :: ("strconv.ErrRange", Rows.laid_strconv_ErrRange) :: Rows.moneySumsRow.laid.drop 5) W from laid_all h).tail.tail.tail.tail
  obtain ⟨ps, ⟨g', t', cs, fuel, p, q, hg', ht', hvar, hd, _, _⟩, _⟩ := h3
  obtain rfl : 0 = g' := Option.some.inj ((show Tryz.prog.globalNamed "strconv.ErrRange" = some 0 by kernel_rfl).symm.trans hg')
  obtain rfl : 51 = t' := Option.some.inj ((show (Tryz.prog.globals[0]?).map (·.type) = some 51 by kernel_rfl).symm.trans ht')
  obtain ⟨_, u, v, e, _, _⟩ := iface_of_trod Tryz.underlying51 hd
  refine ⟨u, v, ?_⟩
  rw [World.var?_cell hg' hvar 0, ← Array.getElem?_toList, e]
  rfl
end Go.Proofs.YtikjnfghlohjkaaGreatDoor
