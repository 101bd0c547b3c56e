/-
  Equality of an array of five texts, of which the last is empty. No condition.
-/
import Derived.Test.YtcfkegfddiglcaaDoorStPure
import Derived.Laws.StructEq
import Derived.WalkKit
namespace Go.Proofs.YtcfkegfddiglcaaDoor
set_option linter.unusedVariables false
set_option linter.unusedSimpArgs false
open Go.RowKit Go.MapKept
end Go.Proofs.YtcfkegfddiglcaaDoor
