/-
  DERIVED. GIVEN WITH THE SEED: THE CARDS: each row of YtmapinediglimaaDoorRows.lean that lists a variable, with what it lists TIED to the program's text (the seventh form; the later family's looks); each row that meets fmt, with fmt's text TOLD by the authors' own Lean function (tested against real Go, not proved from fmt's source: count such statements apart). THE CARD IS WHAT COUNTS. Prove the row's statement (the work); the ties are given (YtmapinediglimaaDoorTie.lean); close each card by the builder's one call (the guide's Derived/Test/ToyasCard.lean, 'card_holds'). Laid BY PROGRAM, IN A SANDBOX (cutbox-door.mjs). By AI agents, Wed Nov 11 2026. No macro, syntax, notation, axiom, sorry.
-/
import Derived.Test.YtmapinediglimaaDoorRows
import GoSem.ClaimSeven
namespace Go.Proofs.YtmapinediglimaaDoor
namespace Rows

/-- THE TIED CARD OF 'heliographlaw13.RequestOne'. -/
def requestOneCard : Claim7 := { stood := { row := requestOneRow, standIns := [], harness := (true, "17bd537609b94956fc875290b47e2296409838d74d9258a933f9232f216c447b"), looks := true }, kinds := [], alts := [], laidByText := true, laidKinds := [.data, .data, .data, .sentinel, .sentinel], laidTests := true, laidLooks := .later }
def RequestOneCardSaid : Prop := Claim7.holds Tryd.pinned (.plain (OpenSpec.ofChange requestOneSpec)) requestOneCard

/-- THE TIED CARD OF 'heliographlaw13.RequestExact'. -/
def requestExactCard : Claim7 := { stood := { row := requestExactRow, standIns := [], harness := (true, "17bd537609b94956fc875290b47e2296409838d74d9258a933f9232f216c447b"), looks := true }, kinds := [], alts := [], laidByText := true, laidKinds := [.data, .data, .data, .sentinel, .sentinel], laidTests := true, laidLooks := .later }
def RequestExactCardSaid : Prop := Claim7.holds Tryd.pinned (.plain (OpenSpec.ofChange requestExactSpec)) requestExactCard

/-- THE TIED CARD OF 'heliographlaw13.RequestBack'. -/
def requestBackCard : Claim7 := { stood := { row := requestBackRow, standIns := [], harness := (true, "17bd537609b94956fc875290b47e2296409838d74d9258a933f9232f216c447b"), looks := true }, kinds := [], alts := [], laidByText := true, laidKinds := [.data, .data, .data, .data, .sentinel, .sentinel, .pinned], laidTests := true, laidLooks := .later }
def RequestBackCardSaid : Prop := Claim7.holds Tryd.pinned (.plain (OpenSpec.ofChange requestBackSpec)) requestBackCard

/-- THE TIED CARD OF 'heliographlaw13.RequestEvents'. -/
def requestEventsCard : Claim7 := { stood := { row := requestEventsRow, standIns := [], harness := (true, "17bd537609b94956fc875290b47e2296409838d74d9258a933f9232f216c447b"), looks := true }, kinds := [], alts := [], laidByText := true, laidKinds := [.data, .data, .data, .data, .sentinel, .sentinel, .pinned], laidTests := true, laidLooks := .later }
def RequestEventsCardSaid : Prop := Claim7.holds Tryd.pinned (.plain (OpenSpec.ofChange requestEventsSpec)) requestEventsCard

/-- THE SECOND FORM's CARD OF 'heliographlaw13.RequestOne'. -/
def requestOneUptoCard : Claim7 := { stood := { row := requestOneUptoRow, standIns := [], harness := (true, "17bd537609b94956fc875290b47e2296409838d74d9258a933f9232f216c447b"), looks := true }, kinds := [], alts := [], laidByText := true, laidKinds := [.data, .data, .data, .sentinel, .sentinel], laidTests := true, laidLooks := .later }
def RequestOneUptoCardSaid : Prop := Claim7.holds Tryd.pinned (.plain (OpenSpec.upto requestOneSpec)) requestOneUptoCard

/-- THE SECOND FORM's CARD OF 'heliographlaw13.RequestExact'. -/
def requestExactUptoCard : Claim7 := { stood := { row := requestExactUptoRow, standIns := [], harness := (true, "17bd537609b94956fc875290b47e2296409838d74d9258a933f9232f216c447b"), looks := true }, kinds := [], alts := [], laidByText := true, laidKinds := [.data, .data, .data, .sentinel, .sentinel], laidTests := true, laidLooks := .later }
def RequestExactUptoCardSaid : Prop := Claim7.holds Tryd.pinned (.plain (OpenSpec.upto requestExactSpec)) requestExactUptoCard

/-- THE SECOND FORM's CARD OF 'heliographlaw13.RequestBack'. -/
def requestBackUptoCard : Claim7 := { stood := { row := requestBackUptoRow, standIns := [], harness := (true, "17bd537609b94956fc875290b47e2296409838d74d9258a933f9232f216c447b"), looks := true }, kinds := [], alts := [], laidByText := true, laidKinds := [.data, .data, .data, .data, .sentinel, .sentinel, .pinned], laidTests := true, laidLooks := .later }
def RequestBackUptoCardSaid : Prop := Claim7.holds Tryd.pinned (.plain (OpenSpec.upto requestBackSpec)) requestBackUptoCard

/-- THE SECOND FORM's CARD OF 'heliographlaw13.RequestEvents'. -/
def requestEventsUptoCard : Claim7 := { stood := { row := requestEventsUptoRow, standIns := [], harness := (true, "17bd537609b94956fc875290b47e2296409838d74d9258a933f9232f216c447b"), looks := true }, kinds := [], alts := [], laidByText := true, laidKinds := [.data, .data, .data, .data, .sentinel, .sentinel, .pinned], laidTests := true, laidLooks := .later }
def RequestEventsUptoCardSaid : Prop := Claim7.holds Tryd.pinned (.plain (OpenSpec.upto requestEventsSpec)) requestEventsUptoCard
end Rows
end Go.Proofs.YtmapinediglimaaDoor
