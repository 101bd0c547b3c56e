/-
  No cell of these rows narrows 'for every input' (looked for: loops, veiled, ifaces, maps, wideKeys, modest, calm, conditions, laid).
  DERIVED. THE GIVEN ROWS OF THIS SEAT. 5 by the template 'for every input the law returns true; each argument reads behind the call as it read before'; 0 by the template 'total and deterministic' (their statements: YtfmheobofikkmaaTotals.lean).
  GIVEN WITH THE SEED: the statements are not yours to turn. If you find one false, say at which input.
  Laid BY PROGRAM, IN A SANDBOX (cutbox-rows.mjs): the forced cells as the released guide's own fill.sh prints them over the translation 7920593d465fddb7… (all of the seat's roots in one cut). By AI agents, Wed Nov 11 2026. No macro, syntax, notation, axiom, sorry.
-/
import Derived.Test.YtfmheobofikkmaaChecked
import GoSem.Claim
import GoSem.ClaimJoined
import GoSem.ClaimMapViews
import Derived.JoinedTies
import Derived.KernelRfl
namespace Go.Proofs.Ytfmheobofikkmaa
/- THE CELL 'sum', in the pinned program and in every row, IS THE sha256 OF THE DUMP (.gsa) THAT YtfmheobofikkmaaProg.lean LOADS. Nothing in Lean hashes anything: it is a label: what it is worth is what the hold of that sum in a sandbox is worth. -/
noncomputable def Try.pinned : Pinned := { name := "ytfmheobofikkmaa", sum := "7920593d465fddb73af7afeaf445204c3c921eef00b6158b33f59ab793f6f584", checked := Try.checked }
namespace Rows
def none {H : Type} : Left H := { results := [], args := [] }

/-- 'heliographlaw04.WriteWraps': WHATEVER THE INPUT: true; the input reads as it did. -/
def writeWrapsSpec : ChangeSpec := { name := "writeWraps", fn := fun _ => fun
  | [d1, d2] => { results := [.lit (.bool true)], args := [d1, d2] }
  | _ => none }
def writeWrapsRow : OpenClaim := { program := "ytfmheobofikkmaa", sum := "7920593d465fddb73af7afeaf445204c3c921eef00b6158b33f59ab793f6f584", func := "heliograph/heliographlaw04.WriteWraps", spec := "writeWraps", inPlace := ["internal/abi.NoEscape"], unfollowed := true, recurses := true, apart := false }
def WriteWrapsSaid : Prop := writeWrapsRow.holds Try.pinned (OpenSpec.ofChange writeWrapsSpec)

/-- ITS FALSE NEIGHBOUR: 'it returns false'. Refute it at one input. -/
def writeWrapsWrong : ChangeSpec := { name := "writeWraps", fn := fun _ => fun
  | [d1, d2] => { results := [.lit (.bool false)], args := [d1, d2] }
  | _ => none }
def WriteWrapsWrongFalsely : Prop := writeWrapsRow.holds Try.pinned (OpenSpec.ofChange writeWrapsWrong)

/-- 'heliographlaw04.WriteJoins': WHATEVER THE INPUT: true; the input reads as it did. -/
def writeJoinsSpec : ChangeSpec := { name := "writeJoins", fn := fun _ => fun
  | [d1, d2] => { results := [.lit (.bool true)], args := [d1, d2] }
  | _ => none }
def writeJoinsRow : OpenClaim := { program := "ytfmheobofikkmaa", sum := "7920593d465fddb73af7afeaf445204c3c921eef00b6158b33f59ab793f6f584", func := "heliograph/heliographlaw04.WriteJoins", spec := "writeJoins", inPlace := ["internal/abi.NoEscape"], unfollowed := true, recurses := true, apart := false }
def WriteJoinsSaid : Prop := writeJoinsRow.holds Try.pinned (OpenSpec.ofChange writeJoinsSpec)

/-- ITS FALSE NEIGHBOUR: 'it returns false'. Refute it at one input. -/
def writeJoinsWrong : ChangeSpec := { name := "writeJoins", fn := fun _ => fun
  | [d1, d2] => { results := [.lit (.bool false)], args := [d1, d2] }
  | _ => none }
def WriteJoinsWrongFalsely : Prop := writeJoinsRow.holds Try.pinned (OpenSpec.ofChange writeJoinsWrong)

/-- 'heliographlaw04.WriteElements': WHATEVER THE INPUT: true; the input reads as it did. -/
def writeElementsSpec : ChangeSpec := { name := "writeElements", fn := fun _ => fun
  | [d1, d2, d3] => { results := [.lit (.bool true)], args := [d1, d2, d3] }
  | _ => none }
def writeElementsRow : OpenClaim := { program := "ytfmheobofikkmaa", sum := "7920593d465fddb73af7afeaf445204c3c921eef00b6158b33f59ab793f6f584", func := "heliograph/heliographlaw04.WriteElements", spec := "writeElements", inPlace := ["internal/abi.NoEscape"], unfollowed := true, recurses := true, apart := false }
def WriteElementsSaid : Prop := writeElementsRow.holds Try.pinned (OpenSpec.ofChange writeElementsSpec)

/-- ITS FALSE NEIGHBOUR: 'it returns false'. Refute it at one input. -/
def writeElementsWrong : ChangeSpec := { name := "writeElements", fn := fun _ => fun
  | [d1, d2, d3] => { results := [.lit (.bool false)], args := [d1, d2, d3] }
  | _ => none }
def WriteElementsWrongFalsely : Prop := writeElementsRow.holds Try.pinned (OpenSpec.ofChange writeElementsWrong)

/-- 'heliographlaw04.WriteAttr': WHATEVER THE INPUT: true; the input reads as it did. -/
def writeAttrSpec : ChangeSpec := { name := "writeAttr", fn := fun _ => fun
  | [d1, d2, d3] => { results := [.lit (.bool true)], args := [d1, d2, d3] }
  | _ => none }
def writeAttrRow : OpenClaim := { program := "ytfmheobofikkmaa", sum := "7920593d465fddb73af7afeaf445204c3c921eef00b6158b33f59ab793f6f584", func := "heliograph/heliographlaw04.WriteAttr", spec := "writeAttr", inPlace := ["internal/abi.NoEscape"], unfollowed := true, recurses := true, apart := false }
def WriteAttrSaid : Prop := writeAttrRow.holds Try.pinned (OpenSpec.ofChange writeAttrSpec)

/-- ITS FALSE NEIGHBOUR: 'it returns false'. Refute it at one input. -/
def writeAttrWrong : ChangeSpec := { name := "writeAttr", fn := fun _ => fun
  | [d1, d2, d3] => { results := [.lit (.bool false)], args := [d1, d2, d3] }
  | _ => none }
def WriteAttrWrongFalsely : Prop := writeAttrRow.holds Try.pinned (OpenSpec.ofChange writeAttrWrong)

/-- 'heliographlaw04.WriteSame': WHATEVER THE INPUT: true; the input reads as it did. -/
def writeSameSpec : ChangeSpec := { name := "writeSame", fn := fun _ => fun
  | [d1, d2] => { results := [.lit (.bool true)], args := [d1, d2] }
  | _ => none }
def writeSameRow : OpenClaim := { program := "ytfmheobofikkmaa", sum := "7920593d465fddb73af7afeaf445204c3c921eef00b6158b33f59ab793f6f584", func := "heliograph/heliographlaw04.WriteSame", spec := "writeSame", inPlace := ["internal/abi.NoEscape"], unfollowed := true, recurses := true, apart := false }
def WriteSameSaid : Prop := writeSameRow.holds Try.pinned (OpenSpec.ofChange writeSameSpec)

/-- ITS FALSE NEIGHBOUR: 'it returns false'. Refute it at one input. -/
def writeSameWrong : ChangeSpec := { name := "writeSame", fn := fun _ => fun
  | [d1, d2] => { results := [.lit (.bool false)], args := [d1, d2] }
  | _ => none }
def WriteSameWrongFalsely : Prop := writeSameRow.holds Try.pinned (OpenSpec.ofChange writeSameWrong)

/- THE SECOND FORM. 'bulk': how many values and letters a reading holds, each counted each time it is reached (what is shared counts as often as it is met; a slice's spare places count too). A statement '..UptoSaid' is the law's where the arguments, and the package variables that the reading takes, are together of bulk at most 1048576: NARROWER than '..Said'. Prove '..Said' where nothing that the law and all that it calls make is longer than what came in: it says more and counts as full. Else prove '..UptoSaid'. A law counts once. -/
mutual
def uptoBulk {H : Type} : DataW H → Nat
  | .lit (.string bytes) => bytes.length + 1
  | .lit _ => 1
  | .nil => 1
  | .ptr d => uptoBulk d + 1
  | .slice elems spare => uptoBulkAll elems + uptoBulkAll spare + 1
  | .agg parts => uptoBulkAll parts + 1
  | .iface _ d => uptoBulk d + 1
  | .map entries => uptoBulkEntries entries + 1
  | .held _ => 1
def uptoBulkAll {H : Type} : List (DataW H) → Nat
  | [] => 0
  | d :: r => uptoBulk d + uptoBulkAll r
def uptoBulkEntries {H : Type} : List (Lit × DataW H) → Nat
  | [] => 0
  | x :: r => uptoBulkEntry x + uptoBulkEntries r
def uptoBulkEntry {H : Type} : Lit × DataW H → Nat
  | (.string bytes, d) => bytes.length + uptoBulk d + 1
  | (_, d) => uptoBulk d + 1
 end
def uptoSmall : (H : Type) → List (DataW H) → Bool := fun _ ds => decide (uptoBulkAll ds ≤ 1048576)
def OpenSpec.upto (s : _root_.Go.ChangeSpec) : _root_.Go.OpenSpec := { _root_.Go.OpenSpec.ofChange s with cond := some uptoSmall }

/-- 'heliographlaw04.WriteWraps', WHERE WHAT IT READS IS OF BULK AT MOST 1048576: true; the input reads as it did. -/
def writeWrapsUptoRow : OpenClaim := { program := "ytfmheobofikkmaa", sum := "7920593d465fddb73af7afeaf445204c3c921eef00b6158b33f59ab793f6f584", func := "heliograph/heliographlaw04.WriteWraps", spec := "writeWraps", inPlace := ["internal/abi.NoEscape"], unfollowed := true, recurses := true, apart := false, narrowed := true }
def WriteWrapsUptoSaid : Prop := writeWrapsUptoRow.holds Try.pinned (OpenSpec.upto writeWrapsSpec)

/-- 'heliographlaw04.WriteJoins', WHERE WHAT IT READS IS OF BULK AT MOST 1048576: true; the input reads as it did. -/
def writeJoinsUptoRow : OpenClaim := { program := "ytfmheobofikkmaa", sum := "7920593d465fddb73af7afeaf445204c3c921eef00b6158b33f59ab793f6f584", func := "heliograph/heliographlaw04.WriteJoins", spec := "writeJoins", inPlace := ["internal/abi.NoEscape"], unfollowed := true, recurses := true, apart := false, narrowed := true }
def WriteJoinsUptoSaid : Prop := writeJoinsUptoRow.holds Try.pinned (OpenSpec.upto writeJoinsSpec)

/-- 'heliographlaw04.WriteElements', WHERE WHAT IT READS IS OF BULK AT MOST 1048576: true; the input reads as it did. -/
def writeElementsUptoRow : OpenClaim := { program := "ytfmheobofikkmaa", sum := "7920593d465fddb73af7afeaf445204c3c921eef00b6158b33f59ab793f6f584", func := "heliograph/heliographlaw04.WriteElements", spec := "writeElements", inPlace := ["internal/abi.NoEscape"], unfollowed := true, recurses := true, apart := false, narrowed := true }
def WriteElementsUptoSaid : Prop := writeElementsUptoRow.holds Try.pinned (OpenSpec.upto writeElementsSpec)

/-- 'heliographlaw04.WriteAttr', WHERE WHAT IT READS IS OF BULK AT MOST 1048576: true; the input reads as it did. -/
def writeAttrUptoRow : OpenClaim := { program := "ytfmheobofikkmaa", sum := "7920593d465fddb73af7afeaf445204c3c921eef00b6158b33f59ab793f6f584", func := "heliograph/heliographlaw04.WriteAttr", spec := "writeAttr", inPlace := ["internal/abi.NoEscape"], unfollowed := true, recurses := true, apart := false, narrowed := true }
def WriteAttrUptoSaid : Prop := writeAttrUptoRow.holds Try.pinned (OpenSpec.upto writeAttrSpec)

/-- 'heliographlaw04.WriteSame', WHERE WHAT IT READS IS OF BULK AT MOST 1048576: true; the input reads as it did. -/
def writeSameUptoRow : OpenClaim := { program := "ytfmheobofikkmaa", sum := "7920593d465fddb73af7afeaf445204c3c921eef00b6158b33f59ab793f6f584", func := "heliograph/heliographlaw04.WriteSame", spec := "writeSame", inPlace := ["internal/abi.NoEscape"], unfollowed := true, recurses := true, apart := false, narrowed := true }
def WriteSameUptoSaid : Prop := writeSameUptoRow.holds Try.pinned (OpenSpec.upto writeSameSpec)

end Rows
end Go.Proofs.Ytfmheobofikkmaa
