/-
  DERIVED. GIVEN WITH THE SEED: THE CARDS: each row of YtcfkegfddiglcaaDoorRows.lean that lists a variable, with what it lists TIED to the program's text (the seventh form; the later family's looks); each row that meets fmt, with fmt's text TOLD by the authors' own Lean function (tested against real Go, not proved from fmt's source: count such statements apart). THE CARD IS WHAT COUNTS. Prove the row's statement (the work); the ties are given (YtcfkegfddiglcaaDoorTie.lean); close each card by the builder's one call (the guide's Derived/Test/ToyasCard.lean, 'card_holds'). Laid BY PROGRAM, IN A SANDBOX (cutbox-door.mjs). By AI agents, Wed Nov 11 2026. No macro, syntax, notation, axiom, sorry.
-/
import Derived.Test.YtcfkegfddiglcaaDoorRows
import GoSem.ClaimSeven
namespace Go.Proofs.YtcfkegfddiglcaaDoor
namespace Rows

/-- THE TIED CARD OF 'heliographlaw06.StanzaReads'. -/
def stanzaReadsCard : Claim7 := { stood := { row := stanzaReadsRow, standIns := [], harness := (true, "4926fd06d3b8749ed27417885050520a519d75b0050e6e02d60a172c3b68fbb9"), looks := false }, kinds := [], alts := [], laidByText := true, laidKinds := [.data, .pinned], laidTests := true, laidLooks := .later }
def StanzaReadsCardSaid : Prop := Claim7.holds Tryd.pinned (.plain (OpenSpec.ofChange stanzaReadsSpec)) stanzaReadsCard

/-- THE SECOND FORM's CARD OF 'heliographlaw06.StanzaReads'. -/
def stanzaReadsUptoCard : Claim7 := { stood := { row := stanzaReadsUptoRow, standIns := [], harness := (true, "4926fd06d3b8749ed27417885050520a519d75b0050e6e02d60a172c3b68fbb9"), looks := false }, kinds := [], alts := [], laidByText := true, laidKinds := [.data, .pinned], laidTests := true, laidLooks := .later }
def StanzaReadsUptoCardSaid : Prop := Claim7.holds Tryd.pinned (.plain (OpenSpec.upto stanzaReadsSpec)) stanzaReadsUptoCard
end Rows
end Go.Proofs.YtcfkegfddiglcaaDoor
