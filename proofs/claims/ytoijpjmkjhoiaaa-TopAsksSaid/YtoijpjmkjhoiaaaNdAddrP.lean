/-
  Which texts are somebody's address, in plain words. No program, no condition.
-/
import Derived.Test.YtoijpjmkjhoiaaaJidPure
import Derived.Test.YtoijpjmkjhoiaaaNdPure
namespace Go.Proofs.Ytoijpjmkjhoiaaa
set_option linter.unusedVariables false
set_option linter.unusedSimpArgs false
open Go.RowKit
/-- is it somebody's address? -/
def addrP (s : List UInt8) : Bool := match parseL s with
  | some (l, d, r) => decide (lowL l = l) && decide (lowL d = d) && decide (r = [])
  | none => false
end Go.Proofs.Ytoijpjmkjhoiaaa
