/-
  DERIVED. GIVEN WITH THE SEED: THE CARDS: each row of YtikjnfghlohjkaaDoorRows.lean that lists a variable, with what it lists TIED to the program's text (the seventh form; the later family's looks); each row that meets fmt, with fmt's text TOLD by the authors' own Lean function (tested against real Go, not proved from fmt's source: count such statements apart). THE CARD IS WHAT COUNTS. Prove the row's statement (the work); the ties are given (YtikjnfghlohjkaaDoorTie.lean); close each card by the builder's one call (the guide's Derived/Test/ToyasCard.lean, 'card_holds'). Laid BY PROGRAM, IN A SANDBOX (cutbox-door.mjs). By AI agents, Wed Nov 11 2026. No macro, syntax, notation, axiom, sorry.
-/
import Derived.Test.YtikjnfghlohjkaaDoorRows
import GoSem.ClaimSeven
namespace Go.Proofs.YtikjnfghlohjkaaDoor
namespace Rows

/-- THE TIED CARD OF 'souklaw03.MoneyFees'. -/
def moneyFeesCard : Claim7 := { stood := { row := moneyFeesRow, standIns := [], harness := (true, "ec8b099177abb47d3caef6da4037d0845282991c3f9703eb19b9ad3a856fec6f"), looks := true }, kinds := [], alts := [], laidByText := true, laidKinds := [.data, .data, .data, .data, .sentinel, .sentinel, .pinned], laidTests := true, laidLooks := .later }
def MoneyFeesCardSaid : Prop := Claim7.holds Tryd.pinned (.plain (OpenSpec.ofChange moneyFeesSpec)) moneyFeesCard

/-- THE TIED CARD OF 'souklaw03.MoneyTexts'. -/
def moneyTextsCard : Claim7 := { stood := { row := moneyTextsRow, standIns := [], harness := (true, "ec8b099177abb47d3caef6da4037d0845282991c3f9703eb19b9ad3a856fec6f"), looks := true }, kinds := [], alts := [], laidByText := true, laidKinds := [.data, .data, .data, .data, .sentinel, .sentinel, .pinned], laidTests := true, laidLooks := .later }
def MoneyTextsCardSaid : Prop := Claim7.holds Tryd.pinned (.plain (OpenSpec.ofChange moneyTextsSpec)) moneyTextsCard

/-- THE TIED CARD OF 'souklaw03.MoneyBack'. -/
def moneyBackCard : Claim7 := { stood := { row := moneyBackRow, standIns := [], harness := (true, "ec8b099177abb47d3caef6da4037d0845282991c3f9703eb19b9ad3a856fec6f"), looks := true }, kinds := [], alts := [], laidByText := true, laidKinds := [.data, .data, .data, .data, .sentinel, .sentinel, .pinned], laidTests := true, laidLooks := .later }
def MoneyBackCardSaid : Prop := Claim7.holds Tryd.pinned (.plain (OpenSpec.ofChange moneyBackSpec)) moneyBackCard

/-- THE TIED CARD OF 'souklaw03.MoneyTimes'. -/
def moneyTimesCard : Claim7 := { stood := { row := moneyTimesRow, standIns := [], harness := (true, "ec8b099177abb47d3caef6da4037d0845282991c3f9703eb19b9ad3a856fec6f"), looks := true }, kinds := [], alts := [], laidByText := true, laidKinds := [.data, .data, .data, .data, .sentinel, .sentinel, .pinned], laidTests := true, laidLooks := .later }
def MoneyTimesCardSaid : Prop := Claim7.holds Tryd.pinned (.plain (OpenSpec.ofChange moneyTimesSpec)) moneyTimesCard

/-- THE TIED CARD OF 'souklaw03.MoneyFair'. -/
def moneyFairCard : Claim7 := { stood := { row := moneyFairRow, standIns := [], harness := (true, "ec8b099177abb47d3caef6da4037d0845282991c3f9703eb19b9ad3a856fec6f"), looks := true }, kinds := [], alts := [], laidByText := true, laidKinds := [.data, .data, .data, .data, .sentinel, .sentinel, .pinned], laidTests := true, laidLooks := .later }
def MoneyFairCardSaid : Prop := Claim7.holds Tryd.pinned (.plain (OpenSpec.ofChange moneyFairSpec)) moneyFairCard

/-- THE TIED CARD OF 'souklaw03.MoneyCap'. -/
def moneyCapCard : Claim7 := { stood := { row := moneyCapRow, standIns := [], harness := (true, "ec8b099177abb47d3caef6da4037d0845282991c3f9703eb19b9ad3a856fec6f"), looks := true }, kinds := [], alts := [], laidByText := true, laidKinds := [.data, .data, .data, .data, .sentinel, .sentinel, .pinned], laidTests := true, laidLooks := .later }
def MoneyCapCardSaid : Prop := Claim7.holds Tryd.pinned (.plain (OpenSpec.ofChange moneyCapSpec)) moneyCapCard

/-- THE TIED CARD OF 'souklaw03.MoneyNames'. -/
def moneyNamesCard : Claim7 := { stood := { row := moneyNamesRow, standIns := [], harness := (true, "ec8b099177abb47d3caef6da4037d0845282991c3f9703eb19b9ad3a856fec6f"), looks := true }, kinds := [], alts := [], laidByText := true, laidKinds := [.data, .data, .data, .data, .sentinel, .sentinel, .pinned], laidTests := true, laidLooks := .later }
def MoneyNamesCardSaid : Prop := Claim7.holds Tryd.pinned (.plain (OpenSpec.ofChange moneyNamesSpec)) moneyNamesCard

/-- THE TIED CARD OF 'souklaw03.MoneyRow'. -/
def moneyRowCard : Claim7 := { stood := { row := moneyRowRow, standIns := [], harness := (true, "ec8b099177abb47d3caef6da4037d0845282991c3f9703eb19b9ad3a856fec6f"), looks := true }, kinds := [], alts := [], laidByText := true, laidKinds := [.data, .data, .data, .data, .sentinel, .sentinel, .pinned], laidTests := true, laidLooks := .later }
def MoneyRowCardSaid : Prop := Claim7.holds Tryd.pinned (.plain (OpenSpec.ofChange moneyRowSpec)) moneyRowCard

/-- THE SECOND FORM's CARD OF 'souklaw03.MoneyFees'. -/
def moneyFeesUptoCard : Claim7 := { stood := { row := moneyFeesUptoRow, standIns := [], harness := (true, "ec8b099177abb47d3caef6da4037d0845282991c3f9703eb19b9ad3a856fec6f"), looks := true }, kinds := [], alts := [], laidByText := true, laidKinds := [.data, .data, .data, .data, .sentinel, .sentinel, .pinned], laidTests := true, laidLooks := .later }
def MoneyFeesUptoCardSaid : Prop := Claim7.holds Tryd.pinned (.plain (OpenSpec.upto moneyFeesSpec)) moneyFeesUptoCard

/-- THE SECOND FORM's CARD OF 'souklaw03.MoneyTexts'. -/
def moneyTextsUptoCard : Claim7 := { stood := { row := moneyTextsUptoRow, standIns := [], harness := (true, "ec8b099177abb47d3caef6da4037d0845282991c3f9703eb19b9ad3a856fec6f"), looks := true }, kinds := [], alts := [], laidByText := true, laidKinds := [.data, .data, .data, .data, .sentinel, .sentinel, .pinned], laidTests := true, laidLooks := .later }
def MoneyTextsUptoCardSaid : Prop := Claim7.holds Tryd.pinned (.plain (OpenSpec.upto moneyTextsSpec)) moneyTextsUptoCard

/-- THE SECOND FORM's CARD OF 'souklaw03.MoneyBack'. -/
def moneyBackUptoCard : Claim7 := { stood := { row := moneyBackUptoRow, standIns := [], harness := (true, "ec8b099177abb47d3caef6da4037d0845282991c3f9703eb19b9ad3a856fec6f"), looks := true }, kinds := [], alts := [], laidByText := true, laidKinds := [.data, .data, .data, .data, .sentinel, .sentinel, .pinned], laidTests := true, laidLooks := .later }
def MoneyBackUptoCardSaid : Prop := Claim7.holds Tryd.pinned (.plain (OpenSpec.upto moneyBackSpec)) moneyBackUptoCard

/-- THE SECOND FORM's CARD OF 'souklaw03.MoneyTimes'. -/
def moneyTimesUptoCard : Claim7 := { stood := { row := moneyTimesUptoRow, standIns := [], harness := (true, "ec8b099177abb47d3caef6da4037d0845282991c3f9703eb19b9ad3a856fec6f"), looks := true }, kinds := [], alts := [], laidByText := true, laidKinds := [.data, .data, .data, .data, .sentinel, .sentinel, .pinned], laidTests := true, laidLooks := .later }
def MoneyTimesUptoCardSaid : Prop := Claim7.holds Tryd.pinned (.plain (OpenSpec.upto moneyTimesSpec)) moneyTimesUptoCard

/-- THE SECOND FORM's CARD OF 'souklaw03.MoneyFair'. -/
def moneyFairUptoCard : Claim7 := { stood := { row := moneyFairUptoRow, standIns := [], harness := (true, "ec8b099177abb47d3caef6da4037d0845282991c3f9703eb19b9ad3a856fec6f"), looks := true }, kinds := [], alts := [], laidByText := true, laidKinds := [.data, .data, .data, .data, .sentinel, .sentinel, .pinned], laidTests := true, laidLooks := .later }
def MoneyFairUptoCardSaid : Prop := Claim7.holds Tryd.pinned (.plain (OpenSpec.upto moneyFairSpec)) moneyFairUptoCard

/-- THE SECOND FORM's CARD OF 'souklaw03.MoneyCap'. -/
def moneyCapUptoCard : Claim7 := { stood := { row := moneyCapUptoRow, standIns := [], harness := (true, "ec8b099177abb47d3caef6da4037d0845282991c3f9703eb19b9ad3a856fec6f"), looks := true }, kinds := [], alts := [], laidByText := true, laidKinds := [.data, .data, .data, .data, .sentinel, .sentinel, .pinned], laidTests := true, laidLooks := .later }
def MoneyCapUptoCardSaid : Prop := Claim7.holds Tryd.pinned (.plain (OpenSpec.upto moneyCapSpec)) moneyCapUptoCard

/-- THE SECOND FORM's CARD OF 'souklaw03.MoneyNames'. -/
def moneyNamesUptoCard : Claim7 := { stood := { row := moneyNamesUptoRow, standIns := [], harness := (true, "ec8b099177abb47d3caef6da4037d0845282991c3f9703eb19b9ad3a856fec6f"), looks := true }, kinds := [], alts := [], laidByText := true, laidKinds := [.data, .data, .data, .data, .sentinel, .sentinel, .pinned], laidTests := true, laidLooks := .later }
def MoneyNamesUptoCardSaid : Prop := Claim7.holds Tryd.pinned (.plain (OpenSpec.upto moneyNamesSpec)) moneyNamesUptoCard

/-- THE SECOND FORM's CARD OF 'souklaw03.MoneyRow'. -/
def moneyRowUptoCard : Claim7 := { stood := { row := moneyRowUptoRow, standIns := [], harness := (true, "ec8b099177abb47d3caef6da4037d0845282991c3f9703eb19b9ad3a856fec6f"), looks := true }, kinds := [], alts := [], laidByText := true, laidKinds := [.data, .data, .data, .data, .sentinel, .sentinel, .pinned], laidTests := true, laidLooks := .later }
def MoneyRowUptoCardSaid : Prop := Claim7.holds Tryd.pinned (.plain (OpenSpec.upto moneyRowSpec)) moneyRowUptoCard
end Rows
end Go.Proofs.YtikjnfghlohjkaaDoor
