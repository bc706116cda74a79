/- The table internal/strconv.uint64pow10, out of FaultText's condition. -/
import Derived.Test.YtabjpnggihginaaDoorFltO
import Derived.Test.YtabjpnggihginaaDoorFltT
import Derived.Stop.LaidErr
namespace Go.Proofs.YtabjpnggihginaaDoor
open Go.RowKit Go.Deep Go.ChangeShapes Go.WideShapes

theorem pow_data : (Rows.laid_internal_strconv_uint64pow10 : DataW Unit) = Lib.tabData .u64 Lib.pow10Tab := by kernel_rfl
theorem tab_of_text {W : World} (h : laidMetH Tryd.prog Rows.faultTextRow.laid W) : Lib.TabIs Tryd.prog W "internal/strconv.uint64pow10" .u64 Lib.pow10Tab := by
  have h1 : laidMet Tryd.prog [("math/bits.deBruijn32tab", Rows.laid_math_bits_deBruijn32tab), ("math/bits.deBruijn64tab", Rows.laid_math_bits_deBruijn64tab), ("internal/strconv.uint64pow10", Rows.laid_internal_strconv_uint64pow10)] W :=
    (show laidMet Tryd.prog [("math/bits.deBruijn32tab", Rows.laid_math_bits_deBruijn32tab), ("math/bits.deBruijn64tab", Rows.laid_math_bits_deBruijn64tab), ("internal/strconv.uint64pow10", Rows.laid_internal_strconv_uint64pow10)] W ∧ handlesMet Tryd.prog [("errors.errorType", Rows.laid_errors_errorType)] W from h).1
  have h3 := h1.tail.tail
  rw [pow_data] at h3
  exact Lib.tabIs_of_head (g := 2) (t := 109) (e := 102) (n := 20) (by kernel_rfl) (by kernel_rfl) Tryd.underlying109 Tryd.underlying102 (by kernel_rfl) (by kernel_rfl) h3
end Go.Proofs.YtabjpnggihginaaDoor
