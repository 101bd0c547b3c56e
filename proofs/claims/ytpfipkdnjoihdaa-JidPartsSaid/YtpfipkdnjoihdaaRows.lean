/-
  No cell of these rows narrows 'for every input' (looked for: loops, veiled, ifaces, maps, wideKeys, modest, calm, conditions, laid).
  DERIVED. THE GIVEN ROWS OF THIS SEAT. 7 by the template 'for every input the law returns true; each argument reads behind the call as it read before'; 0 by the template 'total and deterministic' (their statements: YtpfipkdnjoihdaaTotals.lean).
  GIVEN WITH THE SEED: the statements are not yours to turn. If you find one false, say at which input.
  Laid BY PROGRAM, IN A SANDBOX (cutbox-rows.mjs): the forced cells as the released guide's own fill.sh prints them over the translation c9a007ada1ebd713… (all of the seat's roots in one cut). By AI agents, Wed Nov 11 2026. No macro, syntax, notation, axiom, sorry.
-/
import Derived.Test.YtpfipkdnjoihdaaChecked
import GoSem.Claim
import GoSem.ClaimJoined
import GoSem.ClaimMapViews
import Derived.JoinedTies
import Derived.KernelRfl
namespace Go.Proofs.Ytpfipkdnjoihdaa
/- THE CELL 'sum', in the pinned program and in every row, IS THE sha256 OF THE DUMP (.gsa) THAT YtpfipkdnjoihdaaProg.lean LOADS. Nothing in Lean hashes anything: it is a label: what it is worth is what the hold of that sum in a sandbox is worth. -/
noncomputable def Try.pinned : Pinned := { name := "ytpfipkdnjoihdaa", sum := "c9a007ada1ebd7131b2b1cf026e50cb158a3531593e9d4f2eaf15bbef56cde51", checked := Try.checked }
namespace Rows
def none {H : Type} : Left H := { results := [], args := [] }

/-- 'heliographlaw05.JidParses': WHATEVER THE INPUT: true; the input reads as it did. -/
def jidParsesSpec : ChangeSpec := { name := "jidParses", fn := fun _ => fun
  | [d] => { results := [.lit (.bool true)], args := [d] }
  | _ => none }
def jidParsesRow : OpenClaim := { program := "ytpfipkdnjoihdaa", sum := "c9a007ada1ebd7131b2b1cf026e50cb158a3531593e9d4f2eaf15bbef56cde51", func := "heliograph/heliographlaw05.JidParses", spec := "jidParses", inPlace := ["internal/bytealg.IndexByteString", "internal/bytealg.IndexString"], named := ["internal/bytealg.MaxLen"], apart := false }
def JidParsesSaid : Prop := jidParsesRow.holds Try.pinned (OpenSpec.ofChange jidParsesSpec)

/-- ITS FALSE NEIGHBOUR: 'it returns false'. Refute it at one input. -/
def jidParsesWrong : ChangeSpec := { name := "jidParses", fn := fun _ => fun
  | [d] => { results := [.lit (.bool false)], args := [d] }
  | _ => none }
def JidParsesWrongFalsely : Prop := jidParsesRow.holds Try.pinned (OpenSpec.ofChange jidParsesWrong)

/-- 'heliographlaw05.JidPrints': WHATEVER THE INPUT: true; the input reads as it did. -/
def jidPrintsSpec : ChangeSpec := { name := "jidPrints", fn := fun _ => fun
  | [d] => { results := [.lit (.bool true)], args := [d] }
  | _ => none }
def jidPrintsRow : OpenClaim := { program := "ytpfipkdnjoihdaa", sum := "c9a007ada1ebd7131b2b1cf026e50cb158a3531593e9d4f2eaf15bbef56cde51", func := "heliograph/heliographlaw05.JidPrints", spec := "jidPrints", inPlace := ["internal/bytealg.IndexByteString", "internal/bytealg.IndexString"], named := ["internal/bytealg.MaxLen"], apart := false }
def JidPrintsSaid : Prop := jidPrintsRow.holds Try.pinned (OpenSpec.ofChange jidPrintsSpec)

/-- ITS FALSE NEIGHBOUR: 'it returns false'. Refute it at one input. -/
def jidPrintsWrong : ChangeSpec := { name := "jidPrints", fn := fun _ => fun
  | [d] => { results := [.lit (.bool false)], args := [d] }
  | _ => none }
def JidPrintsWrongFalsely : Prop := jidPrintsRow.holds Try.pinned (OpenSpec.ofChange jidPrintsWrong)

/-- 'heliographlaw05.JidBack': WHATEVER THE INPUT: true; the input reads as it did. -/
def jidBackSpec : ChangeSpec := { name := "jidBack", fn := fun _ => fun
  | [d1, d2] => { results := [.lit (.bool true)], args := [d1, d2] }
  | _ => none }
def jidBackRow : OpenClaim := { program := "ytpfipkdnjoihdaa", sum := "c9a007ada1ebd7131b2b1cf026e50cb158a3531593e9d4f2eaf15bbef56cde51", func := "heliograph/heliographlaw05.JidBack", spec := "jidBack", inPlace := ["internal/bytealg.IndexByteString", "internal/bytealg.IndexString"], named := ["internal/bytealg.MaxLen"], apart := false }
def JidBackSaid : Prop := jidBackRow.holds Try.pinned (OpenSpec.ofChange jidBackSpec)

/-- ITS FALSE NEIGHBOUR: 'it returns false'. Refute it at one input. -/
def jidBackWrong : ChangeSpec := { name := "jidBack", fn := fun _ => fun
  | [d1, d2] => { results := [.lit (.bool false)], args := [d1, d2] }
  | _ => none }
def JidBackWrongFalsely : Prop := jidBackRow.holds Try.pinned (OpenSpec.ofChange jidBackWrong)

/-- 'heliographlaw05.JidParts': WHATEVER THE INPUT: true; the input reads as it did. -/
def jidPartsSpec : ChangeSpec := { name := "jidParts", fn := fun _ => fun
  | [d1, d2] => { results := [.lit (.bool true)], args := [d1, d2] }
  | _ => none }
def jidPartsRow : OpenClaim := { program := "ytpfipkdnjoihdaa", sum := "c9a007ada1ebd7131b2b1cf026e50cb158a3531593e9d4f2eaf15bbef56cde51", func := "heliograph/heliographlaw05.JidParts", spec := "jidParts", inPlace := ["internal/bytealg.IndexByteString", "internal/bytealg.IndexString"], named := ["internal/bytealg.MaxLen"], apart := false }
def JidPartsSaid : Prop := jidPartsRow.holds Try.pinned (OpenSpec.ofChange jidPartsSpec)

/-- ITS FALSE NEIGHBOUR: 'it returns false'. Refute it at one input. -/
def jidPartsWrong : ChangeSpec := { name := "jidParts", fn := fun _ => fun
  | [d1, d2] => { results := [.lit (.bool false)], args := [d1, d2] }
  | _ => none }
def JidPartsWrongFalsely : Prop := jidPartsRow.holds Try.pinned (OpenSpec.ofChange jidPartsWrong)

/-- 'heliographlaw05.JidForms': WHATEVER THE INPUT: true; the input reads as it did. -/
def jidFormsSpec : ChangeSpec := { name := "jidForms", fn := fun _ => fun
  | [d] => { results := [.lit (.bool true)], args := [d] }
  | _ => none }
def jidFormsRow : OpenClaim := { program := "ytpfipkdnjoihdaa", sum := "c9a007ada1ebd7131b2b1cf026e50cb158a3531593e9d4f2eaf15bbef56cde51", func := "heliograph/heliographlaw05.JidForms", spec := "jidForms", inPlace := ["internal/bytealg.IndexByteString", "internal/bytealg.IndexString"], named := ["internal/bytealg.MaxLen"], apart := false }
def JidFormsSaid : Prop := jidFormsRow.holds Try.pinned (OpenSpec.ofChange jidFormsSpec)

/-- ITS FALSE NEIGHBOUR: 'it returns false'. Refute it at one input. -/
def jidFormsWrong : ChangeSpec := { name := "jidForms", fn := fun _ => fun
  | [d] => { results := [.lit (.bool false)], args := [d] }
  | _ => none }
def JidFormsWrongFalsely : Prop := jidFormsRow.holds Try.pinned (OpenSpec.ofChange jidFormsWrong)

/-- 'heliographlaw05.JidTwice': WHATEVER THE INPUT: true; the input reads as it did. -/
def jidTwiceSpec : ChangeSpec := { name := "jidTwice", fn := fun _ => fun
  | [d] => { results := [.lit (.bool true)], args := [d] }
  | _ => none }
def jidTwiceRow : OpenClaim := { program := "ytpfipkdnjoihdaa", sum := "c9a007ada1ebd7131b2b1cf026e50cb158a3531593e9d4f2eaf15bbef56cde51", func := "heliograph/heliographlaw05.JidTwice", spec := "jidTwice", inPlace := ["internal/bytealg.IndexByteString", "internal/bytealg.IndexString"], named := ["internal/bytealg.MaxLen"], apart := false }
def JidTwiceSaid : Prop := jidTwiceRow.holds Try.pinned (OpenSpec.ofChange jidTwiceSpec)

/-- ITS FALSE NEIGHBOUR: 'it returns false'. Refute it at one input. -/
def jidTwiceWrong : ChangeSpec := { name := "jidTwice", fn := fun _ => fun
  | [d] => { results := [.lit (.bool false)], args := [d] }
  | _ => none }
def JidTwiceWrongFalsely : Prop := jidTwiceRow.holds Try.pinned (OpenSpec.ofChange jidTwiceWrong)

/-- 'heliographlaw05.JidCase': WHATEVER THE INPUT: true; the input reads as it did. -/
def jidCaseSpec : ChangeSpec := { name := "jidCase", fn := fun _ => fun
  | [d] => { results := [.lit (.bool true)], args := [d] }
  | _ => none }
def jidCaseRow : OpenClaim := { program := "ytpfipkdnjoihdaa", sum := "c9a007ada1ebd7131b2b1cf026e50cb158a3531593e9d4f2eaf15bbef56cde51", func := "heliograph/heliographlaw05.JidCase", spec := "jidCase", inPlace := ["internal/bytealg.IndexByteString", "internal/bytealg.IndexString"], named := ["internal/bytealg.MaxLen"], apart := false }
def JidCaseSaid : Prop := jidCaseRow.holds Try.pinned (OpenSpec.ofChange jidCaseSpec)

/-- ITS FALSE NEIGHBOUR: 'it returns false'. Refute it at one input. -/
def jidCaseWrong : ChangeSpec := { name := "jidCase", fn := fun _ => fun
  | [d] => { results := [.lit (.bool false)], args := [d] }
  | _ => none }
def JidCaseWrongFalsely : Prop := jidCaseRow.holds Try.pinned (OpenSpec.ofChange jidCaseWrong)

/- THE SECOND FORM. 'bulk': how many values and letters a reading holds, each counted each time it is reached (what is shared counts as often as it is met; a slice's spare places count too). A statement '..UptoSaid' is the law's where the arguments, and the package variables that the reading takes, are together of bulk at most 1048576: NARROWER than '..Said'. Prove '..Said' where nothing that the law and all that it calls make is longer than what came in: it says more and counts as full. Else prove '..UptoSaid'. A law counts once. -/
mutual
def uptoBulk {H : Type} : DataW H → Nat
  | .lit (.string bytes) => bytes.length + 1
  | .lit _ => 1
  | .nil => 1
  | .ptr d => uptoBulk d + 1
  | .slice elems spare => uptoBulkAll elems + uptoBulkAll spare + 1
  | .agg parts => uptoBulkAll parts + 1
  | .iface _ d => uptoBulk d + 1
  | .map entries => uptoBulkEntries entries + 1
  | .held _ => 1
def uptoBulkAll {H : Type} : List (DataW H) → Nat
  | [] => 0
  | d :: r => uptoBulk d + uptoBulkAll r
def uptoBulkEntries {H : Type} : List (Lit × DataW H) → Nat
  | [] => 0
  | x :: r => uptoBulkEntry x + uptoBulkEntries r
def uptoBulkEntry {H : Type} : Lit × DataW H → Nat
  | (.string bytes, d) => bytes.length + uptoBulk d + 1
  | (_, d) => uptoBulk d + 1
 end
def uptoSmall : (H : Type) → List (DataW H) → Bool := fun _ ds => decide (uptoBulkAll ds ≤ 1048576)
def OpenSpec.upto (s : _root_.Go.ChangeSpec) : _root_.Go.OpenSpec := { _root_.Go.OpenSpec.ofChange s with cond := some uptoSmall }

/-- 'heliographlaw05.JidParses', WHERE WHAT IT READS IS OF BULK AT MOST 1048576: true; the input reads as it did. -/
def jidParsesUptoRow : OpenClaim := { program := "ytpfipkdnjoihdaa", sum := "c9a007ada1ebd7131b2b1cf026e50cb158a3531593e9d4f2eaf15bbef56cde51", func := "heliograph/heliographlaw05.JidParses", spec := "jidParses", inPlace := ["internal/bytealg.IndexByteString", "internal/bytealg.IndexString"], named := ["internal/bytealg.MaxLen"], apart := false, narrowed := true }
def JidParsesUptoSaid : Prop := jidParsesUptoRow.holds Try.pinned (OpenSpec.upto jidParsesSpec)

/-- 'heliographlaw05.JidPrints', WHERE WHAT IT READS IS OF BULK AT MOST 1048576: true; the input reads as it did. -/
def jidPrintsUptoRow : OpenClaim := { program := "ytpfipkdnjoihdaa", sum := "c9a007ada1ebd7131b2b1cf026e50cb158a3531593e9d4f2eaf15bbef56cde51", func := "heliograph/heliographlaw05.JidPrints", spec := "jidPrints", inPlace := ["internal/bytealg.IndexByteString", "internal/bytealg.IndexString"], named := ["internal/bytealg.MaxLen"], apart := false, narrowed := true }
def JidPrintsUptoSaid : Prop := jidPrintsUptoRow.holds Try.pinned (OpenSpec.upto jidPrintsSpec)

/-- 'heliographlaw05.JidBack', WHERE WHAT IT READS IS OF BULK AT MOST 1048576: true; the input reads as it did. -/
def jidBackUptoRow : OpenClaim := { program := "ytpfipkdnjoihdaa", sum := "c9a007ada1ebd7131b2b1cf026e50cb158a3531593e9d4f2eaf15bbef56cde51", func := "heliograph/heliographlaw05.JidBack", spec := "jidBack", inPlace := ["internal/bytealg.IndexByteString", "internal/bytealg.IndexString"], named := ["internal/bytealg.MaxLen"], apart := false, narrowed := true }
def JidBackUptoSaid : Prop := jidBackUptoRow.holds Try.pinned (OpenSpec.upto jidBackSpec)

/-- 'heliographlaw05.JidParts', WHERE WHAT IT READS IS OF BULK AT MOST 1048576: true; the input reads as it did. -/
def jidPartsUptoRow : OpenClaim := { program := "ytpfipkdnjoihdaa", sum := "c9a007ada1ebd7131b2b1cf026e50cb158a3531593e9d4f2eaf15bbef56cde51", func := "heliograph/heliographlaw05.JidParts", spec := "jidParts", inPlace := ["internal/bytealg.IndexByteString", "internal/bytealg.IndexString"], named := ["internal/bytealg.MaxLen"], apart := false, narrowed := true }
def JidPartsUptoSaid : Prop := jidPartsUptoRow.holds Try.pinned (OpenSpec.upto jidPartsSpec)

/-- 'heliographlaw05.JidForms', WHERE WHAT IT READS IS OF BULK AT MOST 1048576: true; the input reads as it did. -/
def jidFormsUptoRow : OpenClaim := { program := "ytpfipkdnjoihdaa", sum := "c9a007ada1ebd7131b2b1cf026e50cb158a3531593e9d4f2eaf15bbef56cde51", func := "heliograph/heliographlaw05.JidForms", spec := "jidForms", inPlace := ["internal/bytealg.IndexByteString", "internal/bytealg.IndexString"], named := ["internal/bytealg.MaxLen"], apart := false, narrowed := true }
def JidFormsUptoSaid : Prop := jidFormsUptoRow.holds Try.pinned (OpenSpec.upto jidFormsSpec)

/-- 'heliographlaw05.JidTwice', WHERE WHAT IT READS IS OF BULK AT MOST 1048576: true; the input reads as it did. -/
def jidTwiceUptoRow : OpenClaim := { program := "ytpfipkdnjoihdaa", sum := "c9a007ada1ebd7131b2b1cf026e50cb158a3531593e9d4f2eaf15bbef56cde51", func := "heliograph/heliographlaw05.JidTwice", spec := "jidTwice", inPlace := ["internal/bytealg.IndexByteString", "internal/bytealg.IndexString"], named := ["internal/bytealg.MaxLen"], apart := false, narrowed := true }
def JidTwiceUptoSaid : Prop := jidTwiceUptoRow.holds Try.pinned (OpenSpec.upto jidTwiceSpec)

/-- 'heliographlaw05.JidCase', WHERE WHAT IT READS IS OF BULK AT MOST 1048576: true; the input reads as it did. -/
def jidCaseUptoRow : OpenClaim := { program := "ytpfipkdnjoihdaa", sum := "c9a007ada1ebd7131b2b1cf026e50cb158a3531593e9d4f2eaf15bbef56cde51", func := "heliograph/heliographlaw05.JidCase", spec := "jidCase", inPlace := ["internal/bytealg.IndexByteString", "internal/bytealg.IndexString"], named := ["internal/bytealg.MaxLen"], apart := false, narrowed := true }
def JidCaseUptoSaid : Prop := jidCaseUptoRow.holds Try.pinned (OpenSpec.upto jidCaseSpec)

end Rows
end Go.Proofs.Ytpfipkdnjoihdaa
