/-
  DERIVED. GIVEN WITH THE SEED: THE CARDS: each row of YtjpdadibeocpfaaDoorRows.lean that lists a variable, with what it lists TIED to the program's text (the seventh form; the later family's looks); each row that meets fmt, with fmt's text TOLD by the authors' own Lean function (tested against real Go, not proved from fmt's source: count such statements apart). THE CARD IS WHAT COUNTS. Prove the row's statement (the work); the ties are given (YtjpdadibeocpfaaDoorTie.lean); close each card by the builder's one call (the guide's Derived/Test/ToyasCard.lean, 'card_holds'). Laid BY PROGRAM, IN A SANDBOX (cutbox-door.mjs). By AI agents, Wed Nov 11 2026. No macro, syntax, notation, axiom, sorry.
-/
import Derived.Test.YtjpdadibeocpfaaDoorRows
import GoSem.ClaimSeven
namespace Go.Proofs.YtjpdadibeocpfaaDoor
namespace Rows

/-- THE TIED CARD OF 'heliographtop.TopStream'. -/
def topStreamCard : Claim7 := { stood := { row := topStreamRow, standIns := [], harness := (true, "6a6410db1444ee3f9db7d93828afba47ebb7142b397f009c7e5ea3e3df040eb0"), looks := true }, kinds := [], alts := [], laidByText := true, laidKinds := [.data, .pinned], laidTests := true, laidLooks := .later }
def TopStreamCardSaid : Prop := Claim7.holds Tryd.pinned (.plain (OpenSpec.ofChange topStreamSpec)) topStreamCard

/-- THE TIED CARD OF 'heliographtop.TopCarried'. -/
def topCarriedCard : Claim7 := { stood := { row := topCarriedRow, standIns := [], harness := (true, "6a6410db1444ee3f9db7d93828afba47ebb7142b397f009c7e5ea3e3df040eb0"), looks := true }, kinds := [], alts := [], laidByText := true, laidKinds := [.data, .pinned], laidTests := true, laidLooks := .later }
def TopCarriedCardSaid : Prop := Claim7.holds Tryd.pinned (.plain (OpenSpec.ofChange topCarriedSpec)) topCarriedCard

/-- THE TIED CARD OF 'heliographtop.TopSent'. -/
def topSentCard : Claim7 := { stood := { row := topSentRow, standIns := [], harness := (true, "6a6410db1444ee3f9db7d93828afba47ebb7142b397f009c7e5ea3e3df040eb0"), looks := true }, kinds := [], alts := [], laidByText := true, laidKinds := [.data, .pinned], laidTests := true, laidLooks := .later }
def TopSentCardSaid : Prop := Claim7.holds Tryd.pinned (.plain (OpenSpec.ofChange topSentSpec)) topSentCard

/-- THE SECOND FORM's CARD OF 'heliographtop.TopStream'. -/
def topStreamUptoCard : Claim7 := { stood := { row := topStreamUptoRow, standIns := [], harness := (true, "6a6410db1444ee3f9db7d93828afba47ebb7142b397f009c7e5ea3e3df040eb0"), looks := true }, kinds := [], alts := [], laidByText := true, laidKinds := [.data, .pinned], laidTests := true, laidLooks := .later }
def TopStreamUptoCardSaid : Prop := Claim7.holds Tryd.pinned (.plain (OpenSpec.upto topStreamSpec)) topStreamUptoCard

/-- THE SECOND FORM's CARD OF 'heliographtop.TopCarried'. -/
def topCarriedUptoCard : Claim7 := { stood := { row := topCarriedUptoRow, standIns := [], harness := (true, "6a6410db1444ee3f9db7d93828afba47ebb7142b397f009c7e5ea3e3df040eb0"), looks := true }, kinds := [], alts := [], laidByText := true, laidKinds := [.data, .pinned], laidTests := true, laidLooks := .later }
def TopCarriedUptoCardSaid : Prop := Claim7.holds Tryd.pinned (.plain (OpenSpec.upto topCarriedSpec)) topCarriedUptoCard

/-- THE SECOND FORM's CARD OF 'heliographtop.TopSent'. -/
def topSentUptoCard : Claim7 := { stood := { row := topSentUptoRow, standIns := [], harness := (true, "6a6410db1444ee3f9db7d93828afba47ebb7142b397f009c7e5ea3e3df040eb0"), looks := true }, kinds := [], alts := [], laidByText := true, laidKinds := [.data, .pinned], laidTests := true, laidLooks := .later }
def TopSentUptoCardSaid : Prop := Claim7.holds Tryd.pinned (.plain (OpenSpec.upto topSentSpec)) topSentUptoCard
end Rows
end Go.Proofs.YtjpdadibeocpfaaDoor
