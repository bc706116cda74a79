/-
  DERIVED. GIVEN WITH THE SEED: THE CARDS: each row of YtabjpnggihginaaDoorRows.lean that lists a variable, with what it lists TIED to the program's text (the seventh form; the later family's looks); each row that meets fmt, with fmt's text TOLD by the authors' own Lean function (tested against real Go, not proved from fmt's source: count such statements apart). THE CARD IS WHAT COUNTS. Prove the row's statement (the work); the ties are given (YtabjpnggihginaaDoorTie.lean); close each card by the builder's one call (the guide's Derived/Test/ToyasCard.lean, 'card_holds'). Laid BY PROGRAM, IN A SANDBOX (cutbox-door.mjs). By AI agents, Wed Nov 11 2026. No macro, syntax, notation, axiom, sorry.
-/
import Derived.Test.YtabjpnggihginaaDoorRows
import GoSem.ClaimSeven
namespace Go.Proofs.YtabjpnggihginaaDoor
namespace Rows

/-- THE TIED CARD OF 'souklaw04.FaultText'. -/
def faultTextCard : Claim7 := { stood := { row := faultTextRow, standIns := [], harness := (true, "f8fb24af8da72187722d56a57d1d8a3ce843991f606412410b2d65389e8bf834"), looks := true }, kinds := [], alts := [], laidByText := true, laidKinds := [.data, .data, .data, .handle], laidTests := true, laidLooks := .later }
def FaultTextCardSaid : Prop := Claim7.holds Tryd.pinned (.plain (OpenSpec.ofChange faultTextSpec)) faultTextCard

/-- THE TIED CARD OF 'souklaw04.FaultFound'. -/
def faultFoundCard : Claim7 := { stood := { row := faultFoundRow, standIns := [], harness := (true, "f8fb24af8da72187722d56a57d1d8a3ce843991f606412410b2d65389e8bf834"), looks := true }, kinds := [], alts := [], laidByText := true, laidKinds := [.handle], laidTests := true, laidLooks := .later }
def FaultFoundCardSaid : Prop := Claim7.holds Tryd.pinned (.plain (OpenSpec.ofChange faultFoundSpec)) faultFoundCard

/-- THE TIED CARD OF 'souklaw04.FaultNames'. -/
def faultNamesCard : Claim7 := { stood := { row := faultNamesRow, standIns := [], harness := (true, "f8fb24af8da72187722d56a57d1d8a3ce843991f606412410b2d65389e8bf834"), looks := true }, kinds := [], alts := [], laidByText := true, laidKinds := [.handle, .data], laidTests := true, laidLooks := .later }
def FaultNamesCardSaid : Prop := Claim7.holds Tryd.pinned (.plain (OpenSpec.ofChange faultNamesSpec)) faultNamesCard

/-- THE TIED CARD OF 'souklaw04.FaultTells'. -/
def faultTellsCard : Claim7 := { stood := { row := faultTellsRow, standIns := [], harness := (true, "f8fb24af8da72187722d56a57d1d8a3ce843991f606412410b2d65389e8bf834"), looks := true }, kinds := [], alts := [], laidByText := true, laidKinds := [.handle], laidTests := true, laidLooks := .later }
def FaultTellsCardSaid : Prop := Claim7.holds Tryd.pinned (.plain (OpenSpec.ofChange faultTellsSpec)) faultTellsCard

/-- THE TIED CARD OF 'souklaw04.FaultWrapped'. -/
def faultWrappedCard : Claim7 := { stood := { row := faultWrappedRow, standIns := [], harness := (true, "f8fb24af8da72187722d56a57d1d8a3ce843991f606412410b2d65389e8bf834"), looks := true }, kinds := [], alts := [], laidByText := true, laidKinds := [.handle], laidTests := true, laidLooks := .later }
def FaultWrappedCardSaid : Prop := Claim7.holds Tryd.pinned (.plain (OpenSpec.ofChange faultWrappedSpec)) faultWrappedCard

/-- THE SECOND FORM's CARD OF 'souklaw04.FaultText'. -/
def faultTextUptoCard : Claim7 := { stood := { row := faultTextUptoRow, standIns := [], harness := (true, "f8fb24af8da72187722d56a57d1d8a3ce843991f606412410b2d65389e8bf834"), looks := true }, kinds := [], alts := [], laidByText := true, laidKinds := [.data, .data, .data, .handle], laidTests := true, laidLooks := .later }
def FaultTextUptoCardSaid : Prop := Claim7.holds Tryd.pinned (.plain (OpenSpec.upto faultTextSpec)) faultTextUptoCard

/-- THE SECOND FORM's CARD OF 'souklaw04.FaultFound'. -/
def faultFoundUptoCard : Claim7 := { stood := { row := faultFoundUptoRow, standIns := [], harness := (true, "f8fb24af8da72187722d56a57d1d8a3ce843991f606412410b2d65389e8bf834"), looks := true }, kinds := [], alts := [], laidByText := true, laidKinds := [.handle], laidTests := true, laidLooks := .later }
def FaultFoundUptoCardSaid : Prop := Claim7.holds Tryd.pinned (.plain (OpenSpec.upto faultFoundSpec)) faultFoundUptoCard

/-- THE SECOND FORM's CARD OF 'souklaw04.FaultNames'. -/
def faultNamesUptoCard : Claim7 := { stood := { row := faultNamesUptoRow, standIns := [], harness := (true, "f8fb24af8da72187722d56a57d1d8a3ce843991f606412410b2d65389e8bf834"), looks := true }, kinds := [], alts := [], laidByText := true, laidKinds := [.handle, .data], laidTests := true, laidLooks := .later }
def FaultNamesUptoCardSaid : Prop := Claim7.holds Tryd.pinned (.plain (OpenSpec.upto faultNamesSpec)) faultNamesUptoCard

/-- THE SECOND FORM's CARD OF 'souklaw04.FaultTells'. -/
def faultTellsUptoCard : Claim7 := { stood := { row := faultTellsUptoRow, standIns := [], harness := (true, "f8fb24af8da72187722d56a57d1d8a3ce843991f606412410b2d65389e8bf834"), looks := true }, kinds := [], alts := [], laidByText := true, laidKinds := [.handle], laidTests := true, laidLooks := .later }
def FaultTellsUptoCardSaid : Prop := Claim7.holds Tryd.pinned (.plain (OpenSpec.upto faultTellsSpec)) faultTellsUptoCard

/-- THE SECOND FORM's CARD OF 'souklaw04.FaultWrapped'. -/
def faultWrappedUptoCard : Claim7 := { stood := { row := faultWrappedUptoRow, standIns := [], harness := (true, "f8fb24af8da72187722d56a57d1d8a3ce843991f606412410b2d65389e8bf834"), looks := true }, kinds := [], alts := [], laidByText := true, laidKinds := [.handle], laidTests := true, laidLooks := .later }
def FaultWrappedUptoCardSaid : Prop := Claim7.holds Tryd.pinned (.plain (OpenSpec.upto faultWrappedSpec)) faultWrappedUptoCard
end Rows
end Go.Proofs.YtabjpnggihginaaDoor
