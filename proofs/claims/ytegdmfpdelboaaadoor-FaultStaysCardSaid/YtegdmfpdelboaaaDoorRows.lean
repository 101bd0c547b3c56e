/-
  NARROWER THAN 'FOR EVERY INPUT', by the rows' own cells (each row's printed sentence says how): FaultTypes: laid · FaultPlaces: laid · FaultNames: laid · FaultBack: laid · FaultUnwraps: laid · FaultStays: laid.
  DERIVED. THE GIVEN ROWS OF THIS SEAT. 6 by the template 'for every input the law returns true; each argument reads behind the call as it read before'; 0 by the template 'total and deterministic' (their statements: YtegdmfpdelboaaaDoorTotals.lean).
  GIVEN WITH THE SEED: the statements are not yours to turn. If you find one false, say at which input.
  Laid BY PROGRAM, IN A SANDBOX (cutbox-rows.mjs): the forced cells as the released guide's own fill.sh prints them over the translation f20976622a21a998… (all of the seat's roots in one cut). By AI agents, Wed Nov 11 2026. No macro, syntax, notation, axiom, sorry.
-/
import Derived.Test.YtegdmfpdelboaaaDoorChecked
import GoSem.Claim
import GoSem.ClaimJoined
import GoSem.ClaimMapViews
import Derived.JoinedTies
import Derived.KernelRfl
namespace Go.Proofs.YtegdmfpdelboaaaDoor
/- THE CELL 'sum', in the pinned program and in every row, IS THE sha256 OF THE DUMP (.gsa) THAT YtegdmfpdelboaaaDoorProg.lean LOADS. Nothing in Lean hashes anything: it is a label: what it is worth is what the hold of that sum in a sandbox is worth. -/
noncomputable def Tryd.pinned : Pinned := { name := "ytegdmfpdelboaaadoor", sum := "f20976622a21a99851570459d686d64912a6556884b24aed777d76da0048bff4", checked := Tryd.checked }
namespace Rows
def none {H : Type} : Left H := { results := [], args := [] }

/- WHAT THE LISTED PACKAGE-LEVEL VARIABLES READ AS WHEN THE CALL BEGINS. Each datum BY PROGRAM (the guide's laid-datum.mjs) off the statement by which the dump's own 'gosem.cut.vars' lays the variable. In a bare row this is a premise. The card (YtegdmfpdelboaaaDoorCards.lean) ties it to the program's text. -/
def laid_errors_errorType {H : Type} : DataW H := .iface "internal/reflectlite.rtype" (.agg [.ptr (.lit (.string [101, 114, 114, 111, 114]))])

/-- 'heliographlaw01.FaultTypes': WHATEVER THE INPUT: true; the input reads as it did. -/
def faultTypesSpec : ChangeSpec := { name := "faultTypes", fn := fun _ => fun
  | [d] => { results := [.lit (.bool true)], args := [d] }
  | _ => none }
def faultTypesRow : OpenClaim := { program := "ytegdmfpdelboaaadoor", sum := "f20976622a21a99851570459d686d64912a6556884b24aed777d76da0048bff4", func := "heliograph/heliographlaw01.FaultTypes", spec := "faultTypes", inPlace := ["internal/reflectlite.ValueOf", "(internal/reflectlite.Value).Type", "(internal/reflectlite.Value).IsNil", "internal/reflectlite.TypeOf", "(internal/reflectlite.Value).Elem", "(internal/reflectlite.Value).Set"], unfollowed := true, recurses := true, named := ["errors.errorType"], apart := false, laid := [("errors.errorType", laid_errors_errorType)] }
def FaultTypesSaid : Prop := faultTypesRow.holds Tryd.pinned (OpenSpec.ofChange faultTypesSpec)

/-- ITS FALSE NEIGHBOUR: 'it returns false'. Refute it at one input. -/
def faultTypesWrong : ChangeSpec := { name := "faultTypes", fn := fun _ => fun
  | [d] => { results := [.lit (.bool false)], args := [d] }
  | _ => none }
def FaultTypesWrongFalsely : Prop := faultTypesRow.holds Tryd.pinned (OpenSpec.ofChange faultTypesWrong)

/-- 'heliographlaw01.FaultPlaces': WHATEVER THE INPUT: true; the input reads as it did. -/
def faultPlacesSpec : ChangeSpec := { name := "faultPlaces", fn := fun _ => fun
  | [d1, d2, d3] => { results := [.lit (.bool true)], args := [d1, d2, d3] }
  | _ => none }
def faultPlacesRow : OpenClaim := { program := "ytegdmfpdelboaaadoor", sum := "f20976622a21a99851570459d686d64912a6556884b24aed777d76da0048bff4", func := "heliograph/heliographlaw01.FaultPlaces", spec := "faultPlaces", inPlace := ["internal/reflectlite.ValueOf", "(internal/reflectlite.Value).Type", "(internal/reflectlite.Value).IsNil", "internal/reflectlite.TypeOf", "(internal/reflectlite.Value).Elem", "(internal/reflectlite.Value).Set"], unfollowed := true, recurses := true, named := ["errors.errorType"], apart := false, laid := [("errors.errorType", laid_errors_errorType)] }
def FaultPlacesSaid : Prop := faultPlacesRow.holds Tryd.pinned (OpenSpec.ofChange faultPlacesSpec)

/-- ITS FALSE NEIGHBOUR: 'it returns false'. Refute it at one input. -/
def faultPlacesWrong : ChangeSpec := { name := "faultPlaces", fn := fun _ => fun
  | [d1, d2, d3] => { results := [.lit (.bool false)], args := [d1, d2, d3] }
  | _ => none }
def FaultPlacesWrongFalsely : Prop := faultPlacesRow.holds Tryd.pinned (OpenSpec.ofChange faultPlacesWrong)

/-- 'heliographlaw01.FaultNames': WHATEVER THE INPUT: true; the input reads as it did. -/
def faultNamesSpec : ChangeSpec := { name := "faultNames", fn := fun _ => fun
  | [d1, d2] => { results := [.lit (.bool true)], args := [d1, d2] }
  | _ => none }
def faultNamesRow : OpenClaim := { program := "ytegdmfpdelboaaadoor", sum := "f20976622a21a99851570459d686d64912a6556884b24aed777d76da0048bff4", func := "heliograph/heliographlaw01.FaultNames", spec := "faultNames", inPlace := ["internal/reflectlite.ValueOf", "(internal/reflectlite.Value).Type", "(internal/reflectlite.Value).IsNil", "internal/reflectlite.TypeOf", "(internal/reflectlite.Value).Elem", "(internal/reflectlite.Value).Set"], unfollowed := true, recurses := true, named := ["errors.errorType"], apart := false, laid := [("errors.errorType", laid_errors_errorType)] }
def FaultNamesSaid : Prop := faultNamesRow.holds Tryd.pinned (OpenSpec.ofChange faultNamesSpec)

/-- ITS FALSE NEIGHBOUR: 'it returns false'. Refute it at one input. -/
def faultNamesWrong : ChangeSpec := { name := "faultNames", fn := fun _ => fun
  | [d1, d2] => { results := [.lit (.bool false)], args := [d1, d2] }
  | _ => none }
def FaultNamesWrongFalsely : Prop := faultNamesRow.holds Tryd.pinned (OpenSpec.ofChange faultNamesWrong)

/-- 'heliographlaw01.FaultBack': WHATEVER THE INPUT: true; the input reads as it did. -/
def faultBackSpec : ChangeSpec := { name := "faultBack", fn := fun _ => fun
  | [d1, d2] => { results := [.lit (.bool true)], args := [d1, d2] }
  | _ => none }
def faultBackRow : OpenClaim := { program := "ytegdmfpdelboaaadoor", sum := "f20976622a21a99851570459d686d64912a6556884b24aed777d76da0048bff4", func := "heliograph/heliographlaw01.FaultBack", spec := "faultBack", inPlace := ["internal/reflectlite.ValueOf", "(internal/reflectlite.Value).Type", "(internal/reflectlite.Value).IsNil", "internal/reflectlite.TypeOf", "(internal/reflectlite.Value).Elem", "(internal/reflectlite.Value).Set"], unfollowed := true, recurses := true, named := ["errors.errorType"], apart := false, laid := [("errors.errorType", laid_errors_errorType)] }
def FaultBackSaid : Prop := faultBackRow.holds Tryd.pinned (OpenSpec.ofChange faultBackSpec)

/-- ITS FALSE NEIGHBOUR: 'it returns false'. Refute it at one input. -/
def faultBackWrong : ChangeSpec := { name := "faultBack", fn := fun _ => fun
  | [d1, d2] => { results := [.lit (.bool false)], args := [d1, d2] }
  | _ => none }
def FaultBackWrongFalsely : Prop := faultBackRow.holds Tryd.pinned (OpenSpec.ofChange faultBackWrong)

/-- 'heliographlaw01.FaultUnwraps': WHATEVER THE INPUT: true; the input reads as it did. -/
def faultUnwrapsSpec : ChangeSpec := { name := "faultUnwraps", fn := fun _ => fun
  | [d1, d2, d3] => { results := [.lit (.bool true)], args := [d1, d2, d3] }
  | _ => none }
def faultUnwrapsRow : OpenClaim := { program := "ytegdmfpdelboaaadoor", sum := "f20976622a21a99851570459d686d64912a6556884b24aed777d76da0048bff4", func := "heliograph/heliographlaw01.FaultUnwraps", spec := "faultUnwraps", inPlace := ["internal/reflectlite.ValueOf", "(internal/reflectlite.Value).Type", "(internal/reflectlite.Value).IsNil", "internal/reflectlite.TypeOf", "(internal/reflectlite.Value).Elem", "(internal/reflectlite.Value).Set"], unfollowed := true, recurses := true, named := ["errors.errorType"], apart := false, laid := [("errors.errorType", laid_errors_errorType)] }
def FaultUnwrapsSaid : Prop := faultUnwrapsRow.holds Tryd.pinned (OpenSpec.ofChange faultUnwrapsSpec)

/-- ITS FALSE NEIGHBOUR: 'it returns false'. Refute it at one input. -/
def faultUnwrapsWrong : ChangeSpec := { name := "faultUnwraps", fn := fun _ => fun
  | [d1, d2, d3] => { results := [.lit (.bool false)], args := [d1, d2, d3] }
  | _ => none }
def FaultUnwrapsWrongFalsely : Prop := faultUnwrapsRow.holds Tryd.pinned (OpenSpec.ofChange faultUnwrapsWrong)

/-- 'heliographlaw01.FaultStays': WHATEVER THE INPUT: true; the input reads as it did. -/
def faultStaysSpec : ChangeSpec := { name := "faultStays", fn := fun _ => fun
  | [d1, d2, d3] => { results := [.lit (.bool true)], args := [d1, d2, d3] }
  | _ => none }
def faultStaysRow : OpenClaim := { program := "ytegdmfpdelboaaadoor", sum := "f20976622a21a99851570459d686d64912a6556884b24aed777d76da0048bff4", func := "heliograph/heliographlaw01.FaultStays", spec := "faultStays", inPlace := ["internal/reflectlite.ValueOf", "(internal/reflectlite.Value).Type", "(internal/reflectlite.Value).IsNil", "internal/reflectlite.TypeOf", "(internal/reflectlite.Value).Elem", "(internal/reflectlite.Value).Set"], unfollowed := true, recurses := true, named := ["errors.errorType"], apart := false, laid := [("errors.errorType", laid_errors_errorType)] }
def FaultStaysSaid : Prop := faultStaysRow.holds Tryd.pinned (OpenSpec.ofChange faultStaysSpec)

/-- ITS FALSE NEIGHBOUR: 'it returns false'. Refute it at one input. -/
def faultStaysWrong : ChangeSpec := { name := "faultStays", fn := fun _ => fun
  | [d1, d2, d3] => { results := [.lit (.bool false)], args := [d1, d2, d3] }
  | _ => none }
def FaultStaysWrongFalsely : Prop := faultStaysRow.holds Tryd.pinned (OpenSpec.ofChange faultStaysWrong)

/- THE SECOND FORM. 'bulk': how many values and letters a reading holds, each counted each time it is reached (what is shared counts as often as it is met; a slice's spare places count too). A statement '..UptoSaid' is the law's where the arguments, and the package variables that the reading takes, are together of bulk at most 1048576: NARROWER than '..Said'. Prove '..Said' where nothing that the law and all that it calls make is longer than what came in: it says more and counts as full. Else prove '..UptoSaid'. A law counts once. -/
mutual
def uptoBulk {H : Type} : DataW H → Nat
  | .lit (.string bytes) => bytes.length + 1
  | .lit _ => 1
  | .nil => 1
  | .ptr d => uptoBulk d + 1
  | .slice elems spare => uptoBulkAll elems + uptoBulkAll spare + 1
  | .agg parts => uptoBulkAll parts + 1
  | .iface _ d => uptoBulk d + 1
  | .map entries => uptoBulkEntries entries + 1
  | .held _ => 1
def uptoBulkAll {H : Type} : List (DataW H) → Nat
  | [] => 0
  | d :: r => uptoBulk d + uptoBulkAll r
def uptoBulkEntries {H : Type} : List (Lit × DataW H) → Nat
  | [] => 0
  | x :: r => uptoBulkEntry x + uptoBulkEntries r
def uptoBulkEntry {H : Type} : Lit × DataW H → Nat
  | (.string bytes, d) => bytes.length + uptoBulk d + 1
  | (_, d) => uptoBulk d + 1
 end
def uptoSmall : (H : Type) → List (DataW H) → Bool := fun _ ds => decide (uptoBulkAll ds ≤ 1048576)
def OpenSpec.upto (s : _root_.Go.ChangeSpec) : _root_.Go.OpenSpec := { _root_.Go.OpenSpec.ofChange s with cond := some uptoSmall }

/-- 'heliographlaw01.FaultTypes', WHERE WHAT IT READS IS OF BULK AT MOST 1048576: true; the input reads as it did. -/
def faultTypesUptoRow : OpenClaim := { program := "ytegdmfpdelboaaadoor", sum := "f20976622a21a99851570459d686d64912a6556884b24aed777d76da0048bff4", func := "heliograph/heliographlaw01.FaultTypes", spec := "faultTypes", inPlace := ["internal/reflectlite.ValueOf", "(internal/reflectlite.Value).Type", "(internal/reflectlite.Value).IsNil", "internal/reflectlite.TypeOf", "(internal/reflectlite.Value).Elem", "(internal/reflectlite.Value).Set"], unfollowed := true, recurses := true, named := ["errors.errorType"], apart := false, laid := [("errors.errorType", laid_errors_errorType)], narrowed := true }
def FaultTypesUptoSaid : Prop := faultTypesUptoRow.holds Tryd.pinned (OpenSpec.upto faultTypesSpec)

/-- 'heliographlaw01.FaultPlaces', WHERE WHAT IT READS IS OF BULK AT MOST 1048576: true; the input reads as it did. -/
def faultPlacesUptoRow : OpenClaim := { program := "ytegdmfpdelboaaadoor", sum := "f20976622a21a99851570459d686d64912a6556884b24aed777d76da0048bff4", func := "heliograph/heliographlaw01.FaultPlaces", spec := "faultPlaces", inPlace := ["internal/reflectlite.ValueOf", "(internal/reflectlite.Value).Type", "(internal/reflectlite.Value).IsNil", "internal/reflectlite.TypeOf", "(internal/reflectlite.Value).Elem", "(internal/reflectlite.Value).Set"], unfollowed := true, recurses := true, named := ["errors.errorType"], apart := false, laid := [("errors.errorType", laid_errors_errorType)], narrowed := true }
def FaultPlacesUptoSaid : Prop := faultPlacesUptoRow.holds Tryd.pinned (OpenSpec.upto faultPlacesSpec)

/-- 'heliographlaw01.FaultNames', WHERE WHAT IT READS IS OF BULK AT MOST 1048576: true; the input reads as it did. -/
def faultNamesUptoRow : OpenClaim := { program := "ytegdmfpdelboaaadoor", sum := "f20976622a21a99851570459d686d64912a6556884b24aed777d76da0048bff4", func := "heliograph/heliographlaw01.FaultNames", spec := "faultNames", inPlace := ["internal/reflectlite.ValueOf", "(internal/reflectlite.Value).Type", "(internal/reflectlite.Value).IsNil", "internal/reflectlite.TypeOf", "(internal/reflectlite.Value).Elem", "(internal/reflectlite.Value).Set"], unfollowed := true, recurses := true, named := ["errors.errorType"], apart := false, laid := [("errors.errorType", laid_errors_errorType)], narrowed := true }
def FaultNamesUptoSaid : Prop := faultNamesUptoRow.holds Tryd.pinned (OpenSpec.upto faultNamesSpec)

/-- 'heliographlaw01.FaultBack', WHERE WHAT IT READS IS OF BULK AT MOST 1048576: true; the input reads as it did. -/
def faultBackUptoRow : OpenClaim := { program := "ytegdmfpdelboaaadoor", sum := "f20976622a21a99851570459d686d64912a6556884b24aed777d76da0048bff4", func := "heliograph/heliographlaw01.FaultBack", spec := "faultBack", inPlace := ["internal/reflectlite.ValueOf", "(internal/reflectlite.Value).Type", "(internal/reflectlite.Value).IsNil", "internal/reflectlite.TypeOf", "(internal/reflectlite.Value).Elem", "(internal/reflectlite.Value).Set"], unfollowed := true, recurses := true, named := ["errors.errorType"], apart := false, laid := [("errors.errorType", laid_errors_errorType)], narrowed := true }
def FaultBackUptoSaid : Prop := faultBackUptoRow.holds Tryd.pinned (OpenSpec.upto faultBackSpec)

/-- 'heliographlaw01.FaultUnwraps', WHERE WHAT IT READS IS OF BULK AT MOST 1048576: true; the input reads as it did. -/
def faultUnwrapsUptoRow : OpenClaim := { program := "ytegdmfpdelboaaadoor", sum := "f20976622a21a99851570459d686d64912a6556884b24aed777d76da0048bff4", func := "heliograph/heliographlaw01.FaultUnwraps", spec := "faultUnwraps", inPlace := ["internal/reflectlite.ValueOf", "(internal/reflectlite.Value).Type", "(internal/reflectlite.Value).IsNil", "internal/reflectlite.TypeOf", "(internal/reflectlite.Value).Elem", "(internal/reflectlite.Value).Set"], unfollowed := true, recurses := true, named := ["errors.errorType"], apart := false, laid := [("errors.errorType", laid_errors_errorType)], narrowed := true }
def FaultUnwrapsUptoSaid : Prop := faultUnwrapsUptoRow.holds Tryd.pinned (OpenSpec.upto faultUnwrapsSpec)

/-- 'heliographlaw01.FaultStays', WHERE WHAT IT READS IS OF BULK AT MOST 1048576: true; the input reads as it did. -/
def faultStaysUptoRow : OpenClaim := { program := "ytegdmfpdelboaaadoor", sum := "f20976622a21a99851570459d686d64912a6556884b24aed777d76da0048bff4", func := "heliograph/heliographlaw01.FaultStays", spec := "faultStays", inPlace := ["internal/reflectlite.ValueOf", "(internal/reflectlite.Value).Type", "(internal/reflectlite.Value).IsNil", "internal/reflectlite.TypeOf", "(internal/reflectlite.Value).Elem", "(internal/reflectlite.Value).Set"], unfollowed := true, recurses := true, named := ["errors.errorType"], apart := false, laid := [("errors.errorType", laid_errors_errorType)], narrowed := true }
def FaultStaysUptoSaid : Prop := faultStaysUptoRow.holds Tryd.pinned (OpenSpec.upto faultStaysSpec)

end Rows
end Go.Proofs.YtegdmfpdelboaaaDoor
