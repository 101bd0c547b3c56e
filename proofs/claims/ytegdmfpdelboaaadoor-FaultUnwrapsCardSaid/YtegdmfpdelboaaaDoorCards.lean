/-
  DERIVED. GIVEN WITH THE SEED: THE CARDS: each row of YtegdmfpdelboaaaDoorRows.lean that lists a variable, with what it lists TIED to the program's text (the seventh form; the later family's looks); each row that meets fmt, with fmt's text TOLD by the authors' own Lean function (tested against real Go, not proved from fmt's source: count such statements apart). THE CARD IS WHAT COUNTS. Prove the row's statement (the work); the ties are given (YtegdmfpdelboaaaDoorTie.lean); close each card by the builder's one call (the guide's Derived/Test/ToyasCard.lean, 'card_holds'). Laid BY PROGRAM, IN A SANDBOX (cutbox-door.mjs). By AI agents, Wed Nov 11 2026. No macro, syntax, notation, axiom, sorry.
-/
import Derived.Test.YtegdmfpdelboaaaDoorRows
import GoSem.ClaimSeven
namespace Go.Proofs.YtegdmfpdelboaaaDoor
namespace Rows

/-- THE TIED CARD OF 'heliographlaw01.FaultTypes'. -/
def faultTypesCard : Claim7 := { stood := { row := faultTypesRow, standIns := [], harness := (true, "46a52f8f7c3a0e044b4a5fedc756525fc7330685c6b9767164715b759f9ea374"), looks := true }, kinds := [], alts := [], laidByText := true, laidKinds := [.handle], laidTests := true, laidLooks := .later }
def FaultTypesCardSaid : Prop := Claim7.holds Tryd.pinned (.plain (OpenSpec.ofChange faultTypesSpec)) faultTypesCard

/-- THE TIED CARD OF 'heliographlaw01.FaultPlaces'. -/
def faultPlacesCard : Claim7 := { stood := { row := faultPlacesRow, standIns := [], harness := (true, "46a52f8f7c3a0e044b4a5fedc756525fc7330685c6b9767164715b759f9ea374"), looks := true }, kinds := [], alts := [], laidByText := true, laidKinds := [.handle], laidTests := true, laidLooks := .later }
def FaultPlacesCardSaid : Prop := Claim7.holds Tryd.pinned (.plain (OpenSpec.ofChange faultPlacesSpec)) faultPlacesCard

/-- THE TIED CARD OF 'heliographlaw01.FaultNames'. -/
def faultNamesCard : Claim7 := { stood := { row := faultNamesRow, standIns := [], harness := (true, "46a52f8f7c3a0e044b4a5fedc756525fc7330685c6b9767164715b759f9ea374"), looks := true }, kinds := [], alts := [], laidByText := true, laidKinds := [.handle], laidTests := true, laidLooks := .later }
def FaultNamesCardSaid : Prop := Claim7.holds Tryd.pinned (.plain (OpenSpec.ofChange faultNamesSpec)) faultNamesCard

/-- THE TIED CARD OF 'heliographlaw01.FaultBack'. -/
def faultBackCard : Claim7 := { stood := { row := faultBackRow, standIns := [], harness := (true, "46a52f8f7c3a0e044b4a5fedc756525fc7330685c6b9767164715b759f9ea374"), looks := true }, kinds := [], alts := [], laidByText := true, laidKinds := [.handle], laidTests := true, laidLooks := .later }
def FaultBackCardSaid : Prop := Claim7.holds Tryd.pinned (.plain (OpenSpec.ofChange faultBackSpec)) faultBackCard

/-- THE TIED CARD OF 'heliographlaw01.FaultUnwraps'. -/
def faultUnwrapsCard : Claim7 := { stood := { row := faultUnwrapsRow, standIns := [], harness := (true, "46a52f8f7c3a0e044b4a5fedc756525fc7330685c6b9767164715b759f9ea374"), looks := true }, kinds := [], alts := [], laidByText := true, laidKinds := [.handle], laidTests := true, laidLooks := .later }
def FaultUnwrapsCardSaid : Prop := Claim7.holds Tryd.pinned (.plain (OpenSpec.ofChange faultUnwrapsSpec)) faultUnwrapsCard

/-- THE TIED CARD OF 'heliographlaw01.FaultStays'. -/
def faultStaysCard : Claim7 := { stood := { row := faultStaysRow, standIns := [], harness := (true, "46a52f8f7c3a0e044b4a5fedc756525fc7330685c6b9767164715b759f9ea374"), looks := true }, kinds := [], alts := [], laidByText := true, laidKinds := [.handle], laidTests := true, laidLooks := .later }
def FaultStaysCardSaid : Prop := Claim7.holds Tryd.pinned (.plain (OpenSpec.ofChange faultStaysSpec)) faultStaysCard

/-- THE SECOND FORM's CARD OF 'heliographlaw01.FaultTypes'. -/
def faultTypesUptoCard : Claim7 := { stood := { row := faultTypesUptoRow, standIns := [], harness := (true, "46a52f8f7c3a0e044b4a5fedc756525fc7330685c6b9767164715b759f9ea374"), looks := true }, kinds := [], alts := [], laidByText := true, laidKinds := [.handle], laidTests := true, laidLooks := .later }
def FaultTypesUptoCardSaid : Prop := Claim7.holds Tryd.pinned (.plain (OpenSpec.upto faultTypesSpec)) faultTypesUptoCard

/-- THE SECOND FORM's CARD OF 'heliographlaw01.FaultPlaces'. -/
def faultPlacesUptoCard : Claim7 := { stood := { row := faultPlacesUptoRow, standIns := [], harness := (true, "46a52f8f7c3a0e044b4a5fedc756525fc7330685c6b9767164715b759f9ea374"), looks := true }, kinds := [], alts := [], laidByText := true, laidKinds := [.handle], laidTests := true, laidLooks := .later }
def FaultPlacesUptoCardSaid : Prop := Claim7.holds Tryd.pinned (.plain (OpenSpec.upto faultPlacesSpec)) faultPlacesUptoCard

/-- THE SECOND FORM's CARD OF 'heliographlaw01.FaultNames'. -/
def faultNamesUptoCard : Claim7 := { stood := { row := faultNamesUptoRow, standIns := [], harness := (true, "46a52f8f7c3a0e044b4a5fedc756525fc7330685c6b9767164715b759f9ea374"), looks := true }, kinds := [], alts := [], laidByText := true, laidKinds := [.handle], laidTests := true, laidLooks := .later }
def FaultNamesUptoCardSaid : Prop := Claim7.holds Tryd.pinned (.plain (OpenSpec.upto faultNamesSpec)) faultNamesUptoCard

/-- THE SECOND FORM's CARD OF 'heliographlaw01.FaultBack'. -/
def faultBackUptoCard : Claim7 := { stood := { row := faultBackUptoRow, standIns := [], harness := (true, "46a52f8f7c3a0e044b4a5fedc756525fc7330685c6b9767164715b759f9ea374"), looks := true }, kinds := [], alts := [], laidByText := true, laidKinds := [.handle], laidTests := true, laidLooks := .later }
def FaultBackUptoCardSaid : Prop := Claim7.holds Tryd.pinned (.plain (OpenSpec.upto faultBackSpec)) faultBackUptoCard

/-- THE SECOND FORM's CARD OF 'heliographlaw01.FaultUnwraps'. -/
def faultUnwrapsUptoCard : Claim7 := { stood := { row := faultUnwrapsUptoRow, standIns := [], harness := (true, "46a52f8f7c3a0e044b4a5fedc756525fc7330685c6b9767164715b759f9ea374"), looks := true }, kinds := [], alts := [], laidByText := true, laidKinds := [.handle], laidTests := true, laidLooks := .later }
def FaultUnwrapsUptoCardSaid : Prop := Claim7.holds Tryd.pinned (.plain (OpenSpec.upto faultUnwrapsSpec)) faultUnwrapsUptoCard

/-- THE SECOND FORM's CARD OF 'heliographlaw01.FaultStays'. -/
def faultStaysUptoCard : Claim7 := { stood := { row := faultStaysUptoRow, standIns := [], harness := (true, "46a52f8f7c3a0e044b4a5fedc756525fc7330685c6b9767164715b759f9ea374"), looks := true }, kinds := [], alts := [], laidByText := true, laidKinds := [.handle], laidTests := true, laidLooks := .later }
def FaultStaysUptoCardSaid : Prop := Claim7.holds Tryd.pinned (.plain (OpenSpec.upto faultStaysSpec)) faultStaysUptoCard
end Rows
end Go.Proofs.YtegdmfpdelboaaaDoor
