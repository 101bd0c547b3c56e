/-
  No cell of these rows narrows 'for every input' (looked for: loops, veiled, ifaces, maps, wideKeys, modest, calm, conditions, laid).
  DERIVED. THE GIVEN ROWS OF THIS SEAT. 5 by the template 'for every input the law returns true; each argument reads behind the call as it read before'; 0 by the template 'total and deterministic' (their statements: YtpgojinfhfipeaaTotals.lean).
  GIVEN WITH THE SEED: the statements are not yours to turn. If you find one false, say at which input.
  Laid BY PROGRAM, IN A SANDBOX (cutbox-rows.mjs): the forced cells as the released guide's own fill.sh prints them over the translation c3e3522668757cee… (all of the seat's roots in one cut). By AI agents, Wed Nov 11 2026. No macro, syntax, notation, axiom, sorry.
-/
import Derived.Test.YtpgojinfhfipeaaChecked
import GoSem.Claim
import GoSem.ClaimJoined
import GoSem.ClaimMapViews
import Derived.JoinedTies
import Derived.KernelRfl
namespace Go.Proofs.Ytpgojinfhfipeaa
/- THE CELL 'sum', in the pinned program and in every row, IS THE sha256 OF THE DUMP (.gsa) THAT YtpgojinfhfipeaaProg.lean LOADS. Nothing in Lean hashes anything: it is a label: what it is worth is what the hold of that sum in a sandbox is worth. -/
noncomputable def Try.pinned : Pinned := { name := "ytpgojinfhfipeaa", sum := "c3e3522668757ceef130b01a5436864083b8b6448a197f64024b6f51cc706733", checked := Try.checked }
namespace Rows
def none {H : Type} : Left H := { results := [], args := [] }

/-- 'heliographlaw06.StanzaTypes': WHATEVER THE INPUT: true; the input reads as it did. -/
def stanzaTypesSpec : ChangeSpec := { name := "stanzaTypes", fn := fun _ => fun
  | [d1, d2, d3] => { results := [.lit (.bool true)], args := [d1, d2, d3] }
  | _ => none }
def stanzaTypesRow : OpenClaim := { program := "ytpgojinfhfipeaa", sum := "c3e3522668757ceef130b01a5436864083b8b6448a197f64024b6f51cc706733", func := "heliograph/heliographlaw06.StanzaTypes", spec := "stanzaTypes", inPlace := ["internal/bytealg.IndexByteString", "internal/bytealg.IndexString"], unfollowed := true, recurses := true, named := ["internal/bytealg.MaxLen"], apart := false }
def StanzaTypesSaid : Prop := stanzaTypesRow.holds Try.pinned (OpenSpec.ofChange stanzaTypesSpec)

/-- ITS FALSE NEIGHBOUR: 'it returns false'. Refute it at one input. -/
def stanzaTypesWrong : ChangeSpec := { name := "stanzaTypes", fn := fun _ => fun
  | [d1, d2, d3] => { results := [.lit (.bool false)], args := [d1, d2, d3] }
  | _ => none }
def StanzaTypesWrongFalsely : Prop := stanzaTypesRow.holds Try.pinned (OpenSpec.ofChange stanzaTypesWrong)

/-- 'heliographlaw06.StanzaAnswers': WHATEVER THE INPUT: true; the input reads as it did. -/
def stanzaAnswersSpec : ChangeSpec := { name := "stanzaAnswers", fn := fun _ => fun
  | [d1, d2, d3] => { results := [.lit (.bool true)], args := [d1, d2, d3] }
  | _ => none }
def stanzaAnswersRow : OpenClaim := { program := "ytpgojinfhfipeaa", sum := "c3e3522668757ceef130b01a5436864083b8b6448a197f64024b6f51cc706733", func := "heliograph/heliographlaw06.StanzaAnswers", spec := "stanzaAnswers", inPlace := ["internal/bytealg.IndexByteString", "internal/bytealg.IndexString"], unfollowed := true, recurses := true, named := ["internal/bytealg.MaxLen"], apart := false }
def StanzaAnswersSaid : Prop := stanzaAnswersRow.holds Try.pinned (OpenSpec.ofChange stanzaAnswersSpec)

/-- ITS FALSE NEIGHBOUR: 'it returns false'. Refute it at one input. -/
def stanzaAnswersWrong : ChangeSpec := { name := "stanzaAnswers", fn := fun _ => fun
  | [d1, d2, d3] => { results := [.lit (.bool false)], args := [d1, d2, d3] }
  | _ => none }
def StanzaAnswersWrongFalsely : Prop := stanzaAnswersRow.holds Try.pinned (OpenSpec.ofChange stanzaAnswersWrong)

/-- 'heliographlaw06.StanzaBack': WHATEVER THE INPUT: true; the input reads as it did. -/
def stanzaBackSpec : ChangeSpec := { name := "stanzaBack", fn := fun _ => fun
  | [d1, d2] => { results := [.lit (.bool true)], args := [d1, d2] }
  | _ => none }
def stanzaBackRow : OpenClaim := { program := "ytpgojinfhfipeaa", sum := "c3e3522668757ceef130b01a5436864083b8b6448a197f64024b6f51cc706733", func := "heliograph/heliographlaw06.StanzaBack", spec := "stanzaBack", inPlace := ["internal/bytealg.IndexByteString", "internal/bytealg.IndexString"], unfollowed := true, recurses := true, named := ["internal/bytealg.MaxLen"], apart := false }
def StanzaBackSaid : Prop := stanzaBackRow.holds Try.pinned (OpenSpec.ofChange stanzaBackSpec)

/-- ITS FALSE NEIGHBOUR: 'it returns false'. Refute it at one input. -/
def stanzaBackWrong : ChangeSpec := { name := "stanzaBack", fn := fun _ => fun
  | [d1, d2] => { results := [.lit (.bool false)], args := [d1, d2] }
  | _ => none }
def StanzaBackWrongFalsely : Prop := stanzaBackRow.holds Try.pinned (OpenSpec.ofChange stanzaBackWrong)

/-- 'heliographlaw06.StanzaFails': WHATEVER THE INPUT: true; the input reads as it did. -/
def stanzaFailsSpec : ChangeSpec := { name := "stanzaFails", fn := fun _ => fun
  | [d1, d2] => { results := [.lit (.bool true)], args := [d1, d2] }
  | _ => none }
def stanzaFailsRow : OpenClaim := { program := "ytpgojinfhfipeaa", sum := "c3e3522668757ceef130b01a5436864083b8b6448a197f64024b6f51cc706733", func := "heliograph/heliographlaw06.StanzaFails", spec := "stanzaFails", inPlace := ["internal/bytealg.IndexByteString", "internal/bytealg.IndexString"], unfollowed := true, recurses := true, named := ["internal/bytealg.MaxLen"], apart := false }
def StanzaFailsSaid : Prop := stanzaFailsRow.holds Try.pinned (OpenSpec.ofChange stanzaFailsSpec)

/-- ITS FALSE NEIGHBOUR: 'it returns false'. Refute it at one input. -/
def stanzaFailsWrong : ChangeSpec := { name := "stanzaFails", fn := fun _ => fun
  | [d1, d2] => { results := [.lit (.bool false)], args := [d1, d2] }
  | _ => none }
def StanzaFailsWrongFalsely : Prop := stanzaFailsRow.holds Try.pinned (OpenSpec.ofChange stanzaFailsWrong)

/-- 'heliographlaw06.StanzaSame': WHATEVER THE INPUT: true; the input reads as it did. -/
def stanzaSameSpec : ChangeSpec := { name := "stanzaSame", fn := fun _ => fun
  | [d1, d2] => { results := [.lit (.bool true)], args := [d1, d2] }
  | _ => none }
def stanzaSameRow : OpenClaim := { program := "ytpgojinfhfipeaa", sum := "c3e3522668757ceef130b01a5436864083b8b6448a197f64024b6f51cc706733", func := "heliograph/heliographlaw06.StanzaSame", spec := "stanzaSame", inPlace := ["internal/bytealg.IndexByteString", "internal/bytealg.IndexString"], unfollowed := true, recurses := true, named := ["internal/bytealg.MaxLen"], apart := false }
def StanzaSameSaid : Prop := stanzaSameRow.holds Try.pinned (OpenSpec.ofChange stanzaSameSpec)

/-- ITS FALSE NEIGHBOUR: 'it returns false'. Refute it at one input. -/
def stanzaSameWrong : ChangeSpec := { name := "stanzaSame", fn := fun _ => fun
  | [d1, d2] => { results := [.lit (.bool false)], args := [d1, d2] }
  | _ => none }
def StanzaSameWrongFalsely : Prop := stanzaSameRow.holds Try.pinned (OpenSpec.ofChange stanzaSameWrong)

/- THE SECOND FORM. 'bulk': how many values and letters a reading holds, each counted each time it is reached (what is shared counts as often as it is met; a slice's spare places count too). A statement '..UptoSaid' is the law's where the arguments, and the package variables that the reading takes, are together of bulk at most 1048576: NARROWER than '..Said'. Prove '..Said' where nothing that the law and all that it calls make is longer than what came in: it says more and counts as full. Else prove '..UptoSaid'. A law counts once. -/
mutual
def uptoBulk {H : Type} : DataW H → Nat
  | .lit (.string bytes) => bytes.length + 1
  | .lit _ => 1
  | .nil => 1
  | .ptr d => uptoBulk d + 1
  | .slice elems spare => uptoBulkAll elems + uptoBulkAll spare + 1
  | .agg parts => uptoBulkAll parts + 1
  | .iface _ d => uptoBulk d + 1
  | .map entries => uptoBulkEntries entries + 1
  | .held _ => 1
def uptoBulkAll {H : Type} : List (DataW H) → Nat
  | [] => 0
  | d :: r => uptoBulk d + uptoBulkAll r
def uptoBulkEntries {H : Type} : List (Lit × DataW H) → Nat
  | [] => 0
  | x :: r => uptoBulkEntry x + uptoBulkEntries r
def uptoBulkEntry {H : Type} : Lit × DataW H → Nat
  | (.string bytes, d) => bytes.length + uptoBulk d + 1
  | (_, d) => uptoBulk d + 1
 end
def uptoSmall : (H : Type) → List (DataW H) → Bool := fun _ ds => decide (uptoBulkAll ds ≤ 1048576)
def OpenSpec.upto (s : _root_.Go.ChangeSpec) : _root_.Go.OpenSpec := { _root_.Go.OpenSpec.ofChange s with cond := some uptoSmall }

/-- 'heliographlaw06.StanzaTypes', WHERE WHAT IT READS IS OF BULK AT MOST 1048576: true; the input reads as it did. -/
def stanzaTypesUptoRow : OpenClaim := { program := "ytpgojinfhfipeaa", sum := "c3e3522668757ceef130b01a5436864083b8b6448a197f64024b6f51cc706733", func := "heliograph/heliographlaw06.StanzaTypes", spec := "stanzaTypes", inPlace := ["internal/bytealg.IndexByteString", "internal/bytealg.IndexString"], unfollowed := true, recurses := true, named := ["internal/bytealg.MaxLen"], apart := false, narrowed := true }
def StanzaTypesUptoSaid : Prop := stanzaTypesUptoRow.holds Try.pinned (OpenSpec.upto stanzaTypesSpec)

/-- 'heliographlaw06.StanzaAnswers', WHERE WHAT IT READS IS OF BULK AT MOST 1048576: true; the input reads as it did. -/
def stanzaAnswersUptoRow : OpenClaim := { program := "ytpgojinfhfipeaa", sum := "c3e3522668757ceef130b01a5436864083b8b6448a197f64024b6f51cc706733", func := "heliograph/heliographlaw06.StanzaAnswers", spec := "stanzaAnswers", inPlace := ["internal/bytealg.IndexByteString", "internal/bytealg.IndexString"], unfollowed := true, recurses := true, named := ["internal/bytealg.MaxLen"], apart := false, narrowed := true }
def StanzaAnswersUptoSaid : Prop := stanzaAnswersUptoRow.holds Try.pinned (OpenSpec.upto stanzaAnswersSpec)

/-- 'heliographlaw06.StanzaBack', WHERE WHAT IT READS IS OF BULK AT MOST 1048576: true; the input reads as it did. -/
def stanzaBackUptoRow : OpenClaim := { program := "ytpgojinfhfipeaa", sum := "c3e3522668757ceef130b01a5436864083b8b6448a197f64024b6f51cc706733", func := "heliograph/heliographlaw06.StanzaBack", spec := "stanzaBack", inPlace := ["internal/bytealg.IndexByteString", "internal/bytealg.IndexString"], unfollowed := true, recurses := true, named := ["internal/bytealg.MaxLen"], apart := false, narrowed := true }
def StanzaBackUptoSaid : Prop := stanzaBackUptoRow.holds Try.pinned (OpenSpec.upto stanzaBackSpec)

/-- 'heliographlaw06.StanzaFails', WHERE WHAT IT READS IS OF BULK AT MOST 1048576: true; the input reads as it did. -/
def stanzaFailsUptoRow : OpenClaim := { program := "ytpgojinfhfipeaa", sum := "c3e3522668757ceef130b01a5436864083b8b6448a197f64024b6f51cc706733", func := "heliograph/heliographlaw06.StanzaFails", spec := "stanzaFails", inPlace := ["internal/bytealg.IndexByteString", "internal/bytealg.IndexString"], unfollowed := true, recurses := true, named := ["internal/bytealg.MaxLen"], apart := false, narrowed := true }
def StanzaFailsUptoSaid : Prop := stanzaFailsUptoRow.holds Try.pinned (OpenSpec.upto stanzaFailsSpec)

/-- 'heliographlaw06.StanzaSame', WHERE WHAT IT READS IS OF BULK AT MOST 1048576: true; the input reads as it did. -/
def stanzaSameUptoRow : OpenClaim := { program := "ytpgojinfhfipeaa", sum := "c3e3522668757ceef130b01a5436864083b8b6448a197f64024b6f51cc706733", func := "heliograph/heliographlaw06.StanzaSame", spec := "stanzaSame", inPlace := ["internal/bytealg.IndexByteString", "internal/bytealg.IndexString"], unfollowed := true, recurses := true, named := ["internal/bytealg.MaxLen"], apart := false, narrowed := true }
def StanzaSameUptoSaid : Prop := stanzaSameUptoRow.holds Try.pinned (OpenSpec.upto stanzaSameSpec)

end Rows
end Go.Proofs.Ytpgojinfhfipeaa
