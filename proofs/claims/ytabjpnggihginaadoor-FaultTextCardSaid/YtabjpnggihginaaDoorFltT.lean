/- FormatInt at base 10, by the shelf's contract. -/
import Derived.Test.YtabjpnggihginaaDoorFltK
import Derived.Test.YtabjpnggihginaaDoorShelf
import Derived.Lib.AppendIntMem
import Derived.Lib.ItoaLen
import Derived.LaidLaws
namespace Go.Proofs.YtabjpnggihginaaDoor
open Go.RowKit Go.Extern.Stop Go.Stop Go.Extern Go.Shelf

def itF (n : Int) : ByteArray := ⟨(Lib.itoa n).toArray⟩
def itO (n : Int) : Prop := -9223372036854775808 ≤ n ∧ n ≤ 9223372036854775807
theorem fmt_tab (w : World) (h : Lib.TabIs Tryd.prog w "internal/strconv.uint64pow10" .u64 Lib.pow10Tab) : Fmt w itF itO := by
  intro n hn
  refine ⟨?_, fun w' hb => ?_⟩
  · have := Lib.itoa_length_le n hn.1 hn.2
    unfold itF
    show (Lib.itoa n).toArray.size ≤ 21
    simpa using this
  · refine (Tryd.internal_strconv_FormatInt_10 n hn.1 hn.2 w' (Lib.tabBelow_of_tabIs h w' hb)).mono ?_
    rintro e w2 ⟨rfl, k, os, rfl⟩
    exact ⟨rfl, Lib.below_grow _ _ (Nat.le_refl _) _ _⟩
theorem itF_44 : itF 44 = ⟨#[52, 52]⟩ := by
  unfold itF
  rw [show (44 : Int) = ((44 : Nat) : Int) from rfl, Lib.itoa_nonneg, Lib.decDigits_two (by omega) (by omega)]
  rfl
theorem itF_7 : itF 7 = ⟨#[55]⟩ := by
  unfold itF
  rw [show (7 : Int) = ((7 : Nat) : Int) from rfl, Lib.itoa_nonneg, Lib.decDigits_one (by omega)]
  rfl
theorem itF_0 : itF 0 = ⟨#[48]⟩ := by
  unfold itF
  rw [show (0 : Int) = ((0 : Nat) : Int) from rfl, Lib.itoa_nonneg, Lib.decDigits_one (by omega)]
  rfl
theorem fmtS_tab (w : World) (h : Lib.TabIs Tryd.prog w "internal/strconv.uint64pow10" .u64 Lib.pow10Tab) : FmtS w itF itO :=
  ⟨fmt_tab w h, ⟨by omega, by omega⟩, ⟨by omega, by omega⟩, itF_44, itF_7⟩
end Go.Proofs.YtabjpnggihginaaDoor
