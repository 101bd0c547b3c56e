/-
  DERIVED. GIVEN WITH THE SEED: THE CARDS: each row of YtadahlffdhgapaaDoorRows.lean that lists a variable, with what it lists TIED to the program's text (the seventh form; the later family's looks); each row that meets fmt, with fmt's text TOLD by the authors' own Lean function (tested against real Go, not proved from fmt's source: count such statements apart). THE CARD IS WHAT COUNTS. Prove the row's statement (the work); the ties are given (YtadahlffdhgapaaDoorTie.lean); close each card by the builder's one call (the guide's Derived/Test/ToyasCard.lean, 'card_holds'). Laid BY PROGRAM, IN A SANDBOX (cutbox-door.mjs). By AI agents, Wed Nov 11 2026. No macro, syntax, notation, axiom, sorry.
-/
import Derived.Test.YtadahlffdhgapaaDoorRows
import GoSem.ClaimSeven
namespace Go.Proofs.YtadahlffdhgapaaDoor
namespace Rows

/-- THE TIED CARD OF 'heliographlaw04.WritePrints'. -/
def writePrintsCard : Claim7 := { stood := { row := writePrintsRow, standIns := [], harness := (true, "266ff510b6929d088543728b299ee9374cceaf572ce18534b153e24573153300"), looks := false }, kinds := [], alts := [], laidByText := true, laidKinds := [.data, .pinned], laidTests := true, laidLooks := .later }
def WritePrintsCardSaid : Prop := Claim7.holds Tryd.pinned (.plain (OpenSpec.ofChange writePrintsSpec)) writePrintsCard

/-- THE TIED CARD OF 'heliographlaw04.WriteBack'. -/
def writeBackCard : Claim7 := { stood := { row := writeBackRow, standIns := [], harness := (true, "266ff510b6929d088543728b299ee9374cceaf572ce18534b153e24573153300"), looks := false }, kinds := [], alts := [], laidByText := true, laidKinds := [.data, .pinned], laidTests := true, laidLooks := .later }
def WriteBackCardSaid : Prop := Claim7.holds Tryd.pinned (.plain (OpenSpec.ofChange writeBackSpec)) writeBackCard

/-- THE SECOND FORM's CARD OF 'heliographlaw04.WritePrints'. -/
def writePrintsUptoCard : Claim7 := { stood := { row := writePrintsUptoRow, standIns := [], harness := (true, "266ff510b6929d088543728b299ee9374cceaf572ce18534b153e24573153300"), looks := false }, kinds := [], alts := [], laidByText := true, laidKinds := [.data, .pinned], laidTests := true, laidLooks := .later }
def WritePrintsUptoCardSaid : Prop := Claim7.holds Tryd.pinned (.plain (OpenSpec.upto writePrintsSpec)) writePrintsUptoCard

/-- THE SECOND FORM's CARD OF 'heliographlaw04.WriteBack'. -/
def writeBackUptoCard : Claim7 := { stood := { row := writeBackUptoRow, standIns := [], harness := (true, "266ff510b6929d088543728b299ee9374cceaf572ce18534b153e24573153300"), looks := false }, kinds := [], alts := [], laidByText := true, laidKinds := [.data, .pinned], laidTests := true, laidLooks := .later }
def WriteBackUptoCardSaid : Prop := Claim7.holds Tryd.pinned (.plain (OpenSpec.upto writeBackSpec)) writeBackUptoCard
end Rows
end Go.Proofs.YtadahlffdhgapaaDoor
