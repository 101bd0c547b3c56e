/-
  The walk of TopAsks, as the row wants it.
-/
import Derived.Test.YtoijpjmkjhoiaaaAsTop
namespace Go.Proofs.Ytoijpjmkjhoiaaa
set_option linter.unusedVariables false
set_option linter.unusedSimpArgs false
open Go.RowKit
theorem topAsks_walk (b0 b1 : Bool) (w : World) : Calls Try.prog 3 #[.bool b0, .bool b1] w fun e w' => e = .returned (.bool true) ∧ Below w.heap.size w w' := asks_any b0 b1 w
end Go.Proofs.Ytoijpjmkjhoiaaa
