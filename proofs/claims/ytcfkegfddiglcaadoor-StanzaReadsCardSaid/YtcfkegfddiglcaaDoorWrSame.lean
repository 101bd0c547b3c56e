/-
  Whether tokens are the same: write.Same (slices.EqualFunc, slices.Equal), and the reference's.
-/
import Derived.Test.YtcfkegfddiglcaaDoorWrElem
import Derived.Deep.LoopGhost
import Derived.Deep.RegionHeld3
import Derived.Shelf.Abstract
namespace Go.Proofs.YtcfkegfddiglcaaDoor
set_option linter.unusedVariables false
set_option linter.unusedSimpArgs false
open Go.RowKit Go.MapKept Go.Shelf
def Tk.same (x y : Tk) : Bool := decide (x.k = y.k) && decide (x.n = y.n) && decide (x.t = y.t) && decide (x.as = y.as)
end Go.Proofs.YtcfkegfddiglcaaDoor
