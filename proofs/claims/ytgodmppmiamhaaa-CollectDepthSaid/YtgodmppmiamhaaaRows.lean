/-
  No cell of these rows narrows 'for every input' (looked for: loops, veiled, ifaces, maps, wideKeys, modest, calm, conditions, laid).
  DERIVED. THE GIVEN ROWS OF THIS SEAT. 7 by the template 'for every input the law returns true; each argument reads behind the call as it read before'; 0 by the template 'total and deterministic' (their statements: YtgodmppmiamhaaaTotals.lean).
  GIVEN WITH THE SEED: the statements are not yours to turn. If you find one false, say at which input.
  Laid BY PROGRAM, IN A SANDBOX (cutbox-rows.mjs): the forced cells as the released guide's own fill.sh prints them over the translation b5a1e75a2ccbc274… (all of the seat's roots in one cut). By AI agents, Wed Nov 11 2026. No macro, syntax, notation, axiom, sorry.
-/
import Derived.Test.YtgodmppmiamhaaaChecked
import GoSem.Claim
import GoSem.ClaimJoined
import GoSem.ClaimMapViews
import Derived.JoinedTies
import Derived.KernelRfl
namespace Go.Proofs.Ytgodmppmiamhaaa
/- THE CELL 'sum', in the pinned program and in every row, IS THE sha256 OF THE DUMP (.gsa) THAT YtgodmppmiamhaaaProg.lean LOADS. Nothing in Lean hashes anything: it is a label: what it is worth is what the hold of that sum in a sandbox is worth. -/
noncomputable def Try.pinned : Pinned := { name := "ytgodmppmiamhaaa", sum := "b5a1e75a2ccbc274b43bad6d5fc90dd46289e3ccd0310c8847bc3815f8c98451", checked := Try.checked }
namespace Rows
def none {H : Type} : Left H := { results := [], args := [] }

/-- 'heliographlaw12.CollectStays': WHATEVER THE INPUT: true; the input reads as it did. -/
def collectStaysSpec : ChangeSpec := { name := "collectStays", fn := fun _ => fun
  | [d] => { results := [.lit (.bool true)], args := [d] }
  | _ => none }
def collectStaysRow : OpenClaim := { program := "ytgodmppmiamhaaa", sum := "b5a1e75a2ccbc274b43bad6d5fc90dd46289e3ccd0310c8847bc3815f8c98451", func := "heliograph/heliographlaw12.CollectStays", spec := "collectStays", inPlace := ["internal/bytealg.abigen_runtime_cmpstring", "slices.overlaps[heliograph/api.Edge]"], unfollowed := true, recurses := true, apart := false }
def CollectStaysSaid : Prop := collectStaysRow.holds Try.pinned (OpenSpec.ofChange collectStaysSpec)

/-- ITS FALSE NEIGHBOUR: 'it returns false'. Refute it at one input. -/
def collectStaysWrong : ChangeSpec := { name := "collectStays", fn := fun _ => fun
  | [d] => { results := [.lit (.bool false)], args := [d] }
  | _ => none }
def CollectStaysWrongFalsely : Prop := collectStaysRow.holds Try.pinned (OpenSpec.ofChange collectStaysWrong)

/-- 'heliographlaw12.CollectBoth': WHATEVER THE INPUT: true; the input reads as it did. -/
def collectBothSpec : ChangeSpec := { name := "collectBoth", fn := fun _ => fun
  | [d1, d2, d3] => { results := [.lit (.bool true)], args := [d1, d2, d3] }
  | _ => none }
def collectBothRow : OpenClaim := { program := "ytgodmppmiamhaaa", sum := "b5a1e75a2ccbc274b43bad6d5fc90dd46289e3ccd0310c8847bc3815f8c98451", func := "heliograph/heliographlaw12.CollectBoth", spec := "collectBoth", inPlace := ["internal/bytealg.abigen_runtime_cmpstring", "slices.overlaps[heliograph/api.Edge]"], unfollowed := true, recurses := true, apart := false }
def CollectBothSaid : Prop := collectBothRow.holds Try.pinned (OpenSpec.ofChange collectBothSpec)

/-- ITS FALSE NEIGHBOUR: 'it returns false'. Refute it at one input. -/
def collectBothWrong : ChangeSpec := { name := "collectBoth", fn := fun _ => fun
  | [d1, d2, d3] => { results := [.lit (.bool false)], args := [d1, d2, d3] }
  | _ => none }
def CollectBothWrongFalsely : Prop := collectBothRow.holds Try.pinned (OpenSpec.ofChange collectBothWrong)

/-- 'heliographlaw12.CollectLooks': WHATEVER THE INPUT: true; the input reads as it did. -/
def collectLooksSpec : ChangeSpec := { name := "collectLooks", fn := fun _ => fun
  | [d1, d2] => { results := [.lit (.bool true)], args := [d1, d2] }
  | _ => none }
def collectLooksRow : OpenClaim := { program := "ytgodmppmiamhaaa", sum := "b5a1e75a2ccbc274b43bad6d5fc90dd46289e3ccd0310c8847bc3815f8c98451", func := "heliograph/heliographlaw12.CollectLooks", spec := "collectLooks", inPlace := ["internal/bytealg.abigen_runtime_cmpstring", "slices.overlaps[heliograph/api.Edge]"], unfollowed := true, recurses := true, apart := false }
def CollectLooksSaid : Prop := collectLooksRow.holds Try.pinned (OpenSpec.ofChange collectLooksSpec)

/-- ITS FALSE NEIGHBOUR: 'it returns false'. Refute it at one input. -/
def collectLooksWrong : ChangeSpec := { name := "collectLooks", fn := fun _ => fun
  | [d1, d2] => { results := [.lit (.bool false)], args := [d1, d2] }
  | _ => none }
def CollectLooksWrongFalsely : Prop := collectLooksRow.holds Try.pinned (OpenSpec.ofChange collectLooksWrong)

/-- 'heliographlaw12.CollectKids': WHATEVER THE INPUT: true; the input reads as it did. -/
def collectKidsSpec : ChangeSpec := { name := "collectKids", fn := fun _ => fun
  | [d1, d2] => { results := [.lit (.bool true)], args := [d1, d2] }
  | _ => none }
def collectKidsRow : OpenClaim := { program := "ytgodmppmiamhaaa", sum := "b5a1e75a2ccbc274b43bad6d5fc90dd46289e3ccd0310c8847bc3815f8c98451", func := "heliograph/heliographlaw12.CollectKids", spec := "collectKids", inPlace := ["internal/bytealg.abigen_runtime_cmpstring", "slices.overlaps[heliograph/api.Edge]"], unfollowed := true, recurses := true, apart := false }
def CollectKidsSaid : Prop := collectKidsRow.holds Try.pinned (OpenSpec.ofChange collectKidsSpec)

/-- ITS FALSE NEIGHBOUR: 'it returns false'. Refute it at one input. -/
def collectKidsWrong : ChangeSpec := { name := "collectKids", fn := fun _ => fun
  | [d1, d2] => { results := [.lit (.bool false)], args := [d1, d2] }
  | _ => none }
def CollectKidsWrongFalsely : Prop := collectKidsRow.holds Try.pinned (OpenSpec.ofChange collectKidsWrong)

/-- 'heliographlaw12.CollectAdds': WHATEVER THE INPUT: true; the input reads as it did. -/
def collectAddsSpec : ChangeSpec := { name := "collectAdds", fn := fun _ => fun
  | [d1, d2, d3] => { results := [.lit (.bool true)], args := [d1, d2, d3] }
  | _ => none }
def collectAddsRow : OpenClaim := { program := "ytgodmppmiamhaaa", sum := "b5a1e75a2ccbc274b43bad6d5fc90dd46289e3ccd0310c8847bc3815f8c98451", func := "heliograph/heliographlaw12.CollectAdds", spec := "collectAdds", inPlace := ["internal/bytealg.abigen_runtime_cmpstring", "slices.overlaps[heliograph/api.Edge]"], unfollowed := true, recurses := true, apart := false }
def CollectAddsSaid : Prop := collectAddsRow.holds Try.pinned (OpenSpec.ofChange collectAddsSpec)

/-- ITS FALSE NEIGHBOUR: 'it returns false'. Refute it at one input. -/
def collectAddsWrong : ChangeSpec := { name := "collectAdds", fn := fun _ => fun
  | [d1, d2, d3] => { results := [.lit (.bool false)], args := [d1, d2, d3] }
  | _ => none }
def CollectAddsWrongFalsely : Prop := collectAddsRow.holds Try.pinned (OpenSpec.ofChange collectAddsWrong)

/-- 'heliographlaw12.CollectUndoes': WHATEVER THE INPUT: true; the input reads as it did. -/
def collectUndoesSpec : ChangeSpec := { name := "collectUndoes", fn := fun _ => fun
  | [d1, d2, d3] => { results := [.lit (.bool true)], args := [d1, d2, d3] }
  | _ => none }
def collectUndoesRow : OpenClaim := { program := "ytgodmppmiamhaaa", sum := "b5a1e75a2ccbc274b43bad6d5fc90dd46289e3ccd0310c8847bc3815f8c98451", func := "heliograph/heliographlaw12.CollectUndoes", spec := "collectUndoes", inPlace := ["internal/bytealg.abigen_runtime_cmpstring", "slices.overlaps[heliograph/api.Edge]"], unfollowed := true, recurses := true, apart := false }
def CollectUndoesSaid : Prop := collectUndoesRow.holds Try.pinned (OpenSpec.ofChange collectUndoesSpec)

/-- ITS FALSE NEIGHBOUR: 'it returns false'. Refute it at one input. -/
def collectUndoesWrong : ChangeSpec := { name := "collectUndoes", fn := fun _ => fun
  | [d1, d2, d3] => { results := [.lit (.bool false)], args := [d1, d2, d3] }
  | _ => none }
def CollectUndoesWrongFalsely : Prop := collectUndoesRow.holds Try.pinned (OpenSpec.ofChange collectUndoesWrong)

/-- 'heliographlaw12.CollectDepth': WHATEVER THE INPUT: true; the input reads as it did. -/
def collectDepthSpec : ChangeSpec := { name := "collectDepth", fn := fun _ => fun
  | [d1, d2] => { results := [.lit (.bool true)], args := [d1, d2] }
  | _ => none }
def collectDepthRow : OpenClaim := { program := "ytgodmppmiamhaaa", sum := "b5a1e75a2ccbc274b43bad6d5fc90dd46289e3ccd0310c8847bc3815f8c98451", func := "heliograph/heliographlaw12.CollectDepth", spec := "collectDepth", inPlace := ["internal/bytealg.abigen_runtime_cmpstring", "slices.overlaps[heliograph/api.Edge]"], unfollowed := true, recurses := true, apart := false }
def CollectDepthSaid : Prop := collectDepthRow.holds Try.pinned (OpenSpec.ofChange collectDepthSpec)

/-- ITS FALSE NEIGHBOUR: 'it returns false'. Refute it at one input. -/
def collectDepthWrong : ChangeSpec := { name := "collectDepth", fn := fun _ => fun
  | [d1, d2] => { results := [.lit (.bool false)], args := [d1, d2] }
  | _ => none }
def CollectDepthWrongFalsely : Prop := collectDepthRow.holds Try.pinned (OpenSpec.ofChange collectDepthWrong)

/- THE SECOND FORM. 'bulk': how many values and letters a reading holds, each counted each time it is reached (what is shared counts as often as it is met; a slice's spare places count too). A statement '..UptoSaid' is the law's where the arguments, and the package variables that the reading takes, are together of bulk at most 1048576: NARROWER than '..Said'. Prove '..Said' where nothing that the law and all that it calls make is longer than what came in: it says more and counts as full. Else prove '..UptoSaid'. A law counts once. -/
mutual
def uptoBulk {H : Type} : DataW H → Nat
  | .lit (.string bytes) => bytes.length + 1
  | .lit _ => 1
  | .nil => 1
  | .ptr d => uptoBulk d + 1
  | .slice elems spare => uptoBulkAll elems + uptoBulkAll spare + 1
  | .agg parts => uptoBulkAll parts + 1
  | .iface _ d => uptoBulk d + 1
  | .map entries => uptoBulkEntries entries + 1
  | .held _ => 1
def uptoBulkAll {H : Type} : List (DataW H) → Nat
  | [] => 0
  | d :: r => uptoBulk d + uptoBulkAll r
def uptoBulkEntries {H : Type} : List (Lit × DataW H) → Nat
  | [] => 0
  | x :: r => uptoBulkEntry x + uptoBulkEntries r
def uptoBulkEntry {H : Type} : Lit × DataW H → Nat
  | (.string bytes, d) => bytes.length + uptoBulk d + 1
  | (_, d) => uptoBulk d + 1
 end
def uptoSmall : (H : Type) → List (DataW H) → Bool := fun _ ds => decide (uptoBulkAll ds ≤ 1048576)
def OpenSpec.upto (s : _root_.Go.ChangeSpec) : _root_.Go.OpenSpec := { _root_.Go.OpenSpec.ofChange s with cond := some uptoSmall }

/-- 'heliographlaw12.CollectStays', WHERE WHAT IT READS IS OF BULK AT MOST 1048576: true; the input reads as it did. -/
def collectStaysUptoRow : OpenClaim := { program := "ytgodmppmiamhaaa", sum := "b5a1e75a2ccbc274b43bad6d5fc90dd46289e3ccd0310c8847bc3815f8c98451", func := "heliograph/heliographlaw12.CollectStays", spec := "collectStays", inPlace := ["internal/bytealg.abigen_runtime_cmpstring", "slices.overlaps[heliograph/api.Edge]"], unfollowed := true, recurses := true, apart := false, narrowed := true }
def CollectStaysUptoSaid : Prop := collectStaysUptoRow.holds Try.pinned (OpenSpec.upto collectStaysSpec)

/-- 'heliographlaw12.CollectBoth', WHERE WHAT IT READS IS OF BULK AT MOST 1048576: true; the input reads as it did. -/
def collectBothUptoRow : OpenClaim := { program := "ytgodmppmiamhaaa", sum := "b5a1e75a2ccbc274b43bad6d5fc90dd46289e3ccd0310c8847bc3815f8c98451", func := "heliograph/heliographlaw12.CollectBoth", spec := "collectBoth", inPlace := ["internal/bytealg.abigen_runtime_cmpstring", "slices.overlaps[heliograph/api.Edge]"], unfollowed := true, recurses := true, apart := false, narrowed := true }
def CollectBothUptoSaid : Prop := collectBothUptoRow.holds Try.pinned (OpenSpec.upto collectBothSpec)

/-- 'heliographlaw12.CollectLooks', WHERE WHAT IT READS IS OF BULK AT MOST 1048576: true; the input reads as it did. -/
def collectLooksUptoRow : OpenClaim := { program := "ytgodmppmiamhaaa", sum := "b5a1e75a2ccbc274b43bad6d5fc90dd46289e3ccd0310c8847bc3815f8c98451", func := "heliograph/heliographlaw12.CollectLooks", spec := "collectLooks", inPlace := ["internal/bytealg.abigen_runtime_cmpstring", "slices.overlaps[heliograph/api.Edge]"], unfollowed := true, recurses := true, apart := false, narrowed := true }
def CollectLooksUptoSaid : Prop := collectLooksUptoRow.holds Try.pinned (OpenSpec.upto collectLooksSpec)

/-- 'heliographlaw12.CollectKids', WHERE WHAT IT READS IS OF BULK AT MOST 1048576: true; the input reads as it did. -/
def collectKidsUptoRow : OpenClaim := { program := "ytgodmppmiamhaaa", sum := "b5a1e75a2ccbc274b43bad6d5fc90dd46289e3ccd0310c8847bc3815f8c98451", func := "heliograph/heliographlaw12.CollectKids", spec := "collectKids", inPlace := ["internal/bytealg.abigen_runtime_cmpstring", "slices.overlaps[heliograph/api.Edge]"], unfollowed := true, recurses := true, apart := false, narrowed := true }
def CollectKidsUptoSaid : Prop := collectKidsUptoRow.holds Try.pinned (OpenSpec.upto collectKidsSpec)

/-- 'heliographlaw12.CollectAdds', WHERE WHAT IT READS IS OF BULK AT MOST 1048576: true; the input reads as it did. -/
def collectAddsUptoRow : OpenClaim := { program := "ytgodmppmiamhaaa", sum := "b5a1e75a2ccbc274b43bad6d5fc90dd46289e3ccd0310c8847bc3815f8c98451", func := "heliograph/heliographlaw12.CollectAdds", spec := "collectAdds", inPlace := ["internal/bytealg.abigen_runtime_cmpstring", "slices.overlaps[heliograph/api.Edge]"], unfollowed := true, recurses := true, apart := false, narrowed := true }
def CollectAddsUptoSaid : Prop := collectAddsUptoRow.holds Try.pinned (OpenSpec.upto collectAddsSpec)

/-- 'heliographlaw12.CollectUndoes', WHERE WHAT IT READS IS OF BULK AT MOST 1048576: true; the input reads as it did. -/
def collectUndoesUptoRow : OpenClaim := { program := "ytgodmppmiamhaaa", sum := "b5a1e75a2ccbc274b43bad6d5fc90dd46289e3ccd0310c8847bc3815f8c98451", func := "heliograph/heliographlaw12.CollectUndoes", spec := "collectUndoes", inPlace := ["internal/bytealg.abigen_runtime_cmpstring", "slices.overlaps[heliograph/api.Edge]"], unfollowed := true, recurses := true, apart := false, narrowed := true }
def CollectUndoesUptoSaid : Prop := collectUndoesUptoRow.holds Try.pinned (OpenSpec.upto collectUndoesSpec)

/-- 'heliographlaw12.CollectDepth', WHERE WHAT IT READS IS OF BULK AT MOST 1048576: true; the input reads as it did. -/
def collectDepthUptoRow : OpenClaim := { program := "ytgodmppmiamhaaa", sum := "b5a1e75a2ccbc274b43bad6d5fc90dd46289e3ccd0310c8847bc3815f8c98451", func := "heliograph/heliographlaw12.CollectDepth", spec := "collectDepth", inPlace := ["internal/bytealg.abigen_runtime_cmpstring", "slices.overlaps[heliograph/api.Edge]"], unfollowed := true, recurses := true, apart := false, narrowed := true }
def CollectDepthUptoSaid : Prop := collectDepthUptoRow.holds Try.pinned (OpenSpec.upto collectDepthSpec)

end Rows
end Go.Proofs.Ytgodmppmiamhaaa
