/-
  A world that meets the list of two variables: the tables of unicode/utf8, laid but not read here. No condition.
-/
import Derived.Test.YtjpdadibeocpfaaDoorOpen
import Derived.Lib.LaidU8T
import Derived.LaidLaws
import Derived.LaidHandle
import Derived.Lib.LaidTab
import Derived.Stop.Joined
import Derived.Deep.DeepLaidRun
import Derived.Deep.DeepHandedRow
import Derived.ChangeSlices
namespace Go.Proofs.YtjpdadibeocpfaaDoor
set_option linter.unusedVariables false
set_option linter.unusedSimpArgs false
open Go.ChangeShapes Go.WideShapes Go.ChangeAt Go.RowKit Go.Joins Go.Deep
set_option linter.unusedVariables false
def litV : DataW Unit → Value
  | .lit (.int k z) => .int k z
  | _ => .nilIface
def litL : DataW Unit → List Value
  | .agg l => l.map litV
  | x => [litV x]
def litA : DataW Unit → Array Value
  | .agg l => (l.flatMap litL).toArray
  | _ => #[]
def putC (cs : Array Value) : Obj → Obj
  | .cells _ t fz => .cells cs t fz
  | o => o
noncomputable def laidWorld (os : Os) : World :=
  let w0 := World.holding Tryd.prog os ⟨#[], #[], []⟩
  { w0 with heap := (w0.heap.modify 2 (putC (litA Rows.laid_unicode_utf8_acceptRanges))).modify 1 (putC (litA Rows.laid_unicode_utf8_first)) }
theorem laidWorld_met (os : Os) (args : Array Value) : laidMetH Tryd.prog [("unicode/utf8.acceptRanges", Rows.laid_unicode_utf8_acceptRanges), ("unicode/utf8.first", Rows.laid_unicode_utf8_first)] ((laidWorld os).forCall (fun _ _ => 0) ⟨#[], args, []⟩).memory :=
  show laidMet Tryd.prog [("unicode/utf8.acceptRanges", Rows.laid_unicode_utf8_acceptRanges), ("unicode/utf8.first", Rows.laid_unicode_utf8_first)] ((laidWorld os).forCall (fun _ _ => 0) ⟨#[], args, []⟩).memory from laidMet_of_run3 8 (by kernel_rfl) (by kernel_rfl) (by kernel_rfl)
end Go.Proofs.YtjpdadibeocpfaaDoor
