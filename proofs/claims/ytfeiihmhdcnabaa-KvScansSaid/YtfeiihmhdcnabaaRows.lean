/-
  No cell of these rows narrows 'for every input' (looked for: loops, veiled, ifaces, maps, wideKeys, modest, calm, conditions, laid).
  DERIVED. THE GIVEN ROWS OF THIS SEAT. 9 by the template 'for every input the law returns true; each argument reads behind the call as it read before'; 0 by the template 'total and deterministic' (their statements: YtfeiihmhdcnabaaTotals.lean).
  GIVEN WITH THE SEED: the statements are not yours to turn. If you find one false, say at which input.
  Laid BY PROGRAM, IN A SANDBOX (cutbox-rows.mjs): the forced cells as the released guide's own fill.sh prints them over the translation cd281d5ad60eab4f… (all of the seat's roots in one cut). By AI agents, Wed Nov 11 2026. No macro, syntax, notation, axiom, sorry.
-/
import Derived.Test.YtfeiihmhdcnabaaChecked
import GoSem.Claim
import GoSem.ClaimJoined
import GoSem.ClaimMapViews
import Derived.JoinedTies
import Derived.KernelRfl
namespace Go.Proofs.Ytfeiihmhdcnabaa
/- THE CELL 'sum', in the pinned program and in every row, IS THE sha256 OF THE DUMP (.gsa) THAT YtfeiihmhdcnabaaProg.lean LOADS. Nothing in Lean hashes anything: it is a label: what it is worth is what the hold of that sum in a sandbox is worth. -/
noncomputable def Try.pinned : Pinned := { name := "ytfeiihmhdcnabaa", sum := "cd281d5ad60eab4f1ba2dc288d3546e528e2eef4ce977355f8b761fd4dce88eb", checked := Try.checked }
namespace Rows
def none {H : Type} : Left H := { results := [], args := [] }

/-- 'heliographlaw09.KvFull': WHATEVER THE INPUT: true; the input reads as it did. -/
def kvFullSpec : ChangeSpec := { name := "kvFull", fn := fun _ => fun
  | [d1, d2] => { results := [.lit (.bool true)], args := [d1, d2] }
  | _ => none }
def kvFullRow : OpenClaim := { program := "ytfeiihmhdcnabaa", sum := "cd281d5ad60eab4f1ba2dc288d3546e528e2eef4ce977355f8b761fd4dce88eb", func := "heliograph/heliographlaw09.KvFull", spec := "kvFull", unfollowed := true, recurses := true, apart := false }
def KvFullSaid : Prop := kvFullRow.holds Try.pinned (OpenSpec.ofChange kvFullSpec)

/-- ITS FALSE NEIGHBOUR: 'it returns false'. Refute it at one input. -/
def kvFullWrong : ChangeSpec := { name := "kvFull", fn := fun _ => fun
  | [d1, d2] => { results := [.lit (.bool false)], args := [d1, d2] }
  | _ => none }
def KvFullWrongFalsely : Prop := kvFullRow.holds Try.pinned (OpenSpec.ofChange kvFullWrong)

/-- 'heliographlaw09.KvPlays': WHATEVER THE INPUT: true; the input reads as it did. -/
def kvPlaysSpec : ChangeSpec := { name := "kvPlays", fn := fun _ => fun
  | [d1, d2] => { results := [.lit (.bool true)], args := [d1, d2] }
  | _ => none }
def kvPlaysRow : OpenClaim := { program := "ytfeiihmhdcnabaa", sum := "cd281d5ad60eab4f1ba2dc288d3546e528e2eef4ce977355f8b761fd4dce88eb", func := "heliograph/heliographlaw09.KvPlays", spec := "kvPlays", unfollowed := true, recurses := true, apart := false }
def KvPlaysSaid : Prop := kvPlaysRow.holds Try.pinned (OpenSpec.ofChange kvPlaysSpec)

/-- ITS FALSE NEIGHBOUR: 'it returns false'. Refute it at one input. -/
def kvPlaysWrong : ChangeSpec := { name := "kvPlays", fn := fun _ => fun
  | [d1, d2] => { results := [.lit (.bool false)], args := [d1, d2] }
  | _ => none }
def KvPlaysWrongFalsely : Prop := kvPlaysRow.holds Try.pinned (OpenSpec.ofChange kvPlaysWrong)

/-- 'heliographlaw09.KvScans': WHATEVER THE INPUT: true; the input reads as it did. -/
def kvScansSpec : ChangeSpec := { name := "kvScans", fn := fun _ => fun
  | [d1, d2] => { results := [.lit (.bool true)], args := [d1, d2] }
  | _ => none }
def kvScansRow : OpenClaim := { program := "ytfeiihmhdcnabaa", sum := "cd281d5ad60eab4f1ba2dc288d3546e528e2eef4ce977355f8b761fd4dce88eb", func := "heliograph/heliographlaw09.KvScans", spec := "kvScans", unfollowed := true, recurses := true, apart := false }
def KvScansSaid : Prop := kvScansRow.holds Try.pinned (OpenSpec.ofChange kvScansSpec)

/-- ITS FALSE NEIGHBOUR: 'it returns false'. Refute it at one input. -/
def kvScansWrong : ChangeSpec := { name := "kvScans", fn := fun _ => fun
  | [d1, d2] => { results := [.lit (.bool false)], args := [d1, d2] }
  | _ => none }
def KvScansWrongFalsely : Prop := kvScansRow.holds Try.pinned (OpenSpec.ofChange kvScansWrong)

/-- 'heliographlaw09.KvUndoes': WHATEVER THE INPUT: true; the input reads as it did. -/
def kvUndoesSpec : ChangeSpec := { name := "kvUndoes", fn := fun _ => fun
  | [d1, d2, d3] => { results := [.lit (.bool true)], args := [d1, d2, d3] }
  | _ => none }
def kvUndoesRow : OpenClaim := { program := "ytfeiihmhdcnabaa", sum := "cd281d5ad60eab4f1ba2dc288d3546e528e2eef4ce977355f8b761fd4dce88eb", func := "heliograph/heliographlaw09.KvUndoes", spec := "kvUndoes", unfollowed := true, recurses := true, apart := false }
def KvUndoesSaid : Prop := kvUndoesRow.holds Try.pinned (OpenSpec.ofChange kvUndoesSpec)

/-- ITS FALSE NEIGHBOUR: 'it returns false'. Refute it at one input. -/
def kvUndoesWrong : ChangeSpec := { name := "kvUndoes", fn := fun _ => fun
  | [d1, d2, d3] => { results := [.lit (.bool false)], args := [d1, d2, d3] }
  | _ => none }
def KvUndoesWrongFalsely : Prop := kvUndoesRow.holds Try.pinned (OpenSpec.ofChange kvUndoesWrong)

/-- 'heliographlaw09.KvLoads': WHATEVER THE INPUT: true; the input reads as it did. -/
def kvLoadsSpec : ChangeSpec := { name := "kvLoads", fn := fun _ => fun
  | [d] => { results := [.lit (.bool true)], args := [d] }
  | _ => none }
def kvLoadsRow : OpenClaim := { program := "ytfeiihmhdcnabaa", sum := "cd281d5ad60eab4f1ba2dc288d3546e528e2eef4ce977355f8b761fd4dce88eb", func := "heliograph/heliographlaw09.KvLoads", spec := "kvLoads", unfollowed := true, recurses := true, apart := false }
def KvLoadsSaid : Prop := kvLoadsRow.holds Try.pinned (OpenSpec.ofChange kvLoadsSpec)

/-- ITS FALSE NEIGHBOUR: 'it returns false'. Refute it at one input. -/
def kvLoadsWrong : ChangeSpec := { name := "kvLoads", fn := fun _ => fun
  | [d] => { results := [.lit (.bool false)], args := [d] }
  | _ => none }
def KvLoadsWrongFalsely : Prop := kvLoadsRow.holds Try.pinned (OpenSpec.ofChange kvLoadsWrong)

/-- 'heliographlaw09.KvForks': WHATEVER THE INPUT: true; the input reads as it did. -/
def kvForksSpec : ChangeSpec := { name := "kvForks", fn := fun _ => fun
  | [d1, d2] => { results := [.lit (.bool true)], args := [d1, d2] }
  | _ => none }
def kvForksRow : OpenClaim := { program := "ytfeiihmhdcnabaa", sum := "cd281d5ad60eab4f1ba2dc288d3546e528e2eef4ce977355f8b761fd4dce88eb", func := "heliograph/heliographlaw09.KvForks", spec := "kvForks", inPlace := ["maps.clone"], unfollowed := true, recurses := true, apart := false }
def KvForksSaid : Prop := kvForksRow.holds Try.pinned (OpenSpec.ofChange kvForksSpec)

/-- ITS FALSE NEIGHBOUR: 'it returns false'. Refute it at one input. -/
def kvForksWrong : ChangeSpec := { name := "kvForks", fn := fun _ => fun
  | [d1, d2] => { results := [.lit (.bool false)], args := [d1, d2] }
  | _ => none }
def KvForksWrongFalsely : Prop := kvForksRow.holds Try.pinned (OpenSpec.ofChange kvForksWrong)

/-- 'heliographlaw09.KvNone': WHATEVER THE INPUT: true; the input reads as it did. -/
def kvNoneSpec : ChangeSpec := { name := "kvNone", fn := fun _ => fun
  | [d] => { results := [.lit (.bool true)], args := [d] }
  | _ => none }
def kvNoneRow : OpenClaim := { program := "ytfeiihmhdcnabaa", sum := "cd281d5ad60eab4f1ba2dc288d3546e528e2eef4ce977355f8b761fd4dce88eb", func := "heliograph/heliographlaw09.KvNone", spec := "kvNone", inPlace := ["maps.clone"], unfollowed := true, recurses := true, apart := false }
def KvNoneSaid : Prop := kvNoneRow.holds Try.pinned (OpenSpec.ofChange kvNoneSpec)

/-- ITS FALSE NEIGHBOUR: 'it returns false'. Refute it at one input. -/
def kvNoneWrong : ChangeSpec := { name := "kvNone", fn := fun _ => fun
  | [d] => { results := [.lit (.bool false)], args := [d] }
  | _ => none }
def KvNoneWrongFalsely : Prop := kvNoneRow.holds Try.pinned (OpenSpec.ofChange kvNoneWrong)

/-- 'heliographlaw09.KvBack': WHATEVER THE INPUT: true; the input reads as it did. -/
def kvBackSpec : ChangeSpec := { name := "kvBack", fn := fun _ => fun
  | [d] => { results := [.lit (.bool true)], args := [d] }
  | _ => none }
def kvBackRow : OpenClaim := { program := "ytfeiihmhdcnabaa", sum := "cd281d5ad60eab4f1ba2dc288d3546e528e2eef4ce977355f8b761fd4dce88eb", func := "heliograph/heliographlaw09.KvBack", spec := "kvBack", unfollowed := true, recurses := true, apart := false }
def KvBackSaid : Prop := kvBackRow.holds Try.pinned (OpenSpec.ofChange kvBackSpec)

/-- ITS FALSE NEIGHBOUR: 'it returns false'. Refute it at one input. -/
def kvBackWrong : ChangeSpec := { name := "kvBack", fn := fun _ => fun
  | [d] => { results := [.lit (.bool false)], args := [d] }
  | _ => none }
def KvBackWrongFalsely : Prop := kvBackRow.holds Try.pinned (OpenSpec.ofChange kvBackWrong)

/-- 'heliographlaw09.KvCuts': WHATEVER THE INPUT: true; the input reads as it did. -/
def kvCutsSpec : ChangeSpec := { name := "kvCuts", fn := fun _ => fun
  | [d1, d2] => { results := [.lit (.bool true)], args := [d1, d2] }
  | _ => none }
def kvCutsRow : OpenClaim := { program := "ytfeiihmhdcnabaa", sum := "cd281d5ad60eab4f1ba2dc288d3546e528e2eef4ce977355f8b761fd4dce88eb", func := "heliograph/heliographlaw09.KvCuts", spec := "kvCuts", unfollowed := true, recurses := true, apart := false }
def KvCutsSaid : Prop := kvCutsRow.holds Try.pinned (OpenSpec.ofChange kvCutsSpec)

/-- ITS FALSE NEIGHBOUR: 'it returns false'. Refute it at one input. -/
def kvCutsWrong : ChangeSpec := { name := "kvCuts", fn := fun _ => fun
  | [d1, d2] => { results := [.lit (.bool false)], args := [d1, d2] }
  | _ => none }
def KvCutsWrongFalsely : Prop := kvCutsRow.holds Try.pinned (OpenSpec.ofChange kvCutsWrong)

/- THE SECOND FORM. 'bulk': how many values and letters a reading holds, each counted each time it is reached (what is shared counts as often as it is met; a slice's spare places count too). A statement '..UptoSaid' is the law's where the arguments, and the package variables that the reading takes, are together of bulk at most 1048576: NARROWER than '..Said'. Prove '..Said' where nothing that the law and all that it calls make is longer than what came in: it says more and counts as full. Else prove '..UptoSaid'. A law counts once. -/
mutual
def uptoBulk {H : Type} : DataW H → Nat
  | .lit (.string bytes) => bytes.length + 1
  | .lit _ => 1
  | .nil => 1
  | .ptr d => uptoBulk d + 1
  | .slice elems spare => uptoBulkAll elems + uptoBulkAll spare + 1
  | .agg parts => uptoBulkAll parts + 1
  | .iface _ d => uptoBulk d + 1
  | .map entries => uptoBulkEntries entries + 1
  | .held _ => 1
def uptoBulkAll {H : Type} : List (DataW H) → Nat
  | [] => 0
  | d :: r => uptoBulk d + uptoBulkAll r
def uptoBulkEntries {H : Type} : List (Lit × DataW H) → Nat
  | [] => 0
  | x :: r => uptoBulkEntry x + uptoBulkEntries r
def uptoBulkEntry {H : Type} : Lit × DataW H → Nat
  | (.string bytes, d) => bytes.length + uptoBulk d + 1
  | (_, d) => uptoBulk d + 1
 end
def uptoSmall : (H : Type) → List (DataW H) → Bool := fun _ ds => decide (uptoBulkAll ds ≤ 1048576)
def OpenSpec.upto (s : _root_.Go.ChangeSpec) : _root_.Go.OpenSpec := { _root_.Go.OpenSpec.ofChange s with cond := some uptoSmall }

/-- 'heliographlaw09.KvFull', WHERE WHAT IT READS IS OF BULK AT MOST 1048576: true; the input reads as it did. -/
def kvFullUptoRow : OpenClaim := { program := "ytfeiihmhdcnabaa", sum := "cd281d5ad60eab4f1ba2dc288d3546e528e2eef4ce977355f8b761fd4dce88eb", func := "heliograph/heliographlaw09.KvFull", spec := "kvFull", unfollowed := true, recurses := true, apart := false, narrowed := true }
def KvFullUptoSaid : Prop := kvFullUptoRow.holds Try.pinned (OpenSpec.upto kvFullSpec)

/-- 'heliographlaw09.KvPlays', WHERE WHAT IT READS IS OF BULK AT MOST 1048576: true; the input reads as it did. -/
def kvPlaysUptoRow : OpenClaim := { program := "ytfeiihmhdcnabaa", sum := "cd281d5ad60eab4f1ba2dc288d3546e528e2eef4ce977355f8b761fd4dce88eb", func := "heliograph/heliographlaw09.KvPlays", spec := "kvPlays", unfollowed := true, recurses := true, apart := false, narrowed := true }
def KvPlaysUptoSaid : Prop := kvPlaysUptoRow.holds Try.pinned (OpenSpec.upto kvPlaysSpec)

/-- 'heliographlaw09.KvScans', WHERE WHAT IT READS IS OF BULK AT MOST 1048576: true; the input reads as it did. -/
def kvScansUptoRow : OpenClaim := { program := "ytfeiihmhdcnabaa", sum := "cd281d5ad60eab4f1ba2dc288d3546e528e2eef4ce977355f8b761fd4dce88eb", func := "heliograph/heliographlaw09.KvScans", spec := "kvScans", unfollowed := true, recurses := true, apart := false, narrowed := true }
def KvScansUptoSaid : Prop := kvScansUptoRow.holds Try.pinned (OpenSpec.upto kvScansSpec)

/-- 'heliographlaw09.KvUndoes', WHERE WHAT IT READS IS OF BULK AT MOST 1048576: true; the input reads as it did. -/
def kvUndoesUptoRow : OpenClaim := { program := "ytfeiihmhdcnabaa", sum := "cd281d5ad60eab4f1ba2dc288d3546e528e2eef4ce977355f8b761fd4dce88eb", func := "heliograph/heliographlaw09.KvUndoes", spec := "kvUndoes", unfollowed := true, recurses := true, apart := false, narrowed := true }
def KvUndoesUptoSaid : Prop := kvUndoesUptoRow.holds Try.pinned (OpenSpec.upto kvUndoesSpec)

/-- 'heliographlaw09.KvLoads', WHERE WHAT IT READS IS OF BULK AT MOST 1048576: true; the input reads as it did. -/
def kvLoadsUptoRow : OpenClaim := { program := "ytfeiihmhdcnabaa", sum := "cd281d5ad60eab4f1ba2dc288d3546e528e2eef4ce977355f8b761fd4dce88eb", func := "heliograph/heliographlaw09.KvLoads", spec := "kvLoads", unfollowed := true, recurses := true, apart := false, narrowed := true }
def KvLoadsUptoSaid : Prop := kvLoadsUptoRow.holds Try.pinned (OpenSpec.upto kvLoadsSpec)

/-- 'heliographlaw09.KvForks', WHERE WHAT IT READS IS OF BULK AT MOST 1048576: true; the input reads as it did. -/
def kvForksUptoRow : OpenClaim := { program := "ytfeiihmhdcnabaa", sum := "cd281d5ad60eab4f1ba2dc288d3546e528e2eef4ce977355f8b761fd4dce88eb", func := "heliograph/heliographlaw09.KvForks", spec := "kvForks", inPlace := ["maps.clone"], unfollowed := true, recurses := true, apart := false, narrowed := true }
def KvForksUptoSaid : Prop := kvForksUptoRow.holds Try.pinned (OpenSpec.upto kvForksSpec)

/-- 'heliographlaw09.KvNone', WHERE WHAT IT READS IS OF BULK AT MOST 1048576: true; the input reads as it did. -/
def kvNoneUptoRow : OpenClaim := { program := "ytfeiihmhdcnabaa", sum := "cd281d5ad60eab4f1ba2dc288d3546e528e2eef4ce977355f8b761fd4dce88eb", func := "heliograph/heliographlaw09.KvNone", spec := "kvNone", inPlace := ["maps.clone"], unfollowed := true, recurses := true, apart := false, narrowed := true }
def KvNoneUptoSaid : Prop := kvNoneUptoRow.holds Try.pinned (OpenSpec.upto kvNoneSpec)

/-- 'heliographlaw09.KvBack', WHERE WHAT IT READS IS OF BULK AT MOST 1048576: true; the input reads as it did. -/
def kvBackUptoRow : OpenClaim := { program := "ytfeiihmhdcnabaa", sum := "cd281d5ad60eab4f1ba2dc288d3546e528e2eef4ce977355f8b761fd4dce88eb", func := "heliograph/heliographlaw09.KvBack", spec := "kvBack", unfollowed := true, recurses := true, apart := false, narrowed := true }
def KvBackUptoSaid : Prop := kvBackUptoRow.holds Try.pinned (OpenSpec.upto kvBackSpec)

/-- 'heliographlaw09.KvCuts', WHERE WHAT IT READS IS OF BULK AT MOST 1048576: true; the input reads as it did. -/
def kvCutsUptoRow : OpenClaim := { program := "ytfeiihmhdcnabaa", sum := "cd281d5ad60eab4f1ba2dc288d3546e528e2eef4ce977355f8b761fd4dce88eb", func := "heliograph/heliographlaw09.KvCuts", spec := "kvCuts", unfollowed := true, recurses := true, apart := false, narrowed := true }
def KvCutsUptoSaid : Prop := kvCutsUptoRow.holds Try.pinned (OpenSpec.upto kvCutsSpec)

end Rows
end Go.Proofs.Ytfeiihmhdcnabaa
