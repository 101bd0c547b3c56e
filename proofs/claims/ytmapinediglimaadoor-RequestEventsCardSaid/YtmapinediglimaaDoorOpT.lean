/-
  The rows that list the library's tables and errors: what the list gives a walk; a world that meets it.
-/
import Derived.Test.YtmapinediglimaaDoorOpen
import Derived.Test.YtmapinediglimaaDoorRqNum
import Derived.LaidLaws
import Derived.LaidHandle
import Derived.Lib.LaidTab
import Derived.Stop.Joined
import Derived.Stop.LaidErr
import Derived.Deep.DeepLaidRun
import Derived.Deep.DeepHandedRow
import Derived.ChangeSlices
import Derived.Test.YtmapinediglimaaDoorRfAll
import Derived.Lib.LaidU8T
namespace Go.Proofs.YtmapinediglimaaDoor
set_option linter.unusedVariables false
set_option linter.unusedSimpArgs false
open Go.ChangeShapes Go.WideShapes Go.ChangeAt Go.RowKit Go.Joins Go.Deep
set_option linter.unusedVariables false
def L3 : List (String × DataW Unit) := [("strconv.ErrRange", Rows.laid_strconv_ErrRange), ("strconv.ErrSyntax", Rows.laid_strconv_ErrSyntax)]
theorem star : ("*" ++ "errors.errorString" : String) = "*errors.errorString" := by decide
theorem rowE (u : TypeId) (h : Tryd.prog.typeName? 3 u = some "*errors.errorString") : u = 124 :=
  typeName_ptr_named (P := Tryd.prog) (nm := "errors.errorString") (by rw [star]; kernel_rfl) (by kernel_rfl) (by decide) u (by rw [star]; exact h)
theorem tabs_of {W : World} {r : List (String × DataW Unit)} (h1 : laidMet Tryd.prog (("internal/strconv.uint64pow10", Lib.tabData .u64 Lib.pow10Tab) :: r) W) {r2 r3 : List (String × DataW Unit)} (h2 : laidMet Tryd.prog (("strconv.ErrRange", Rows.laid_strconv_ErrRange) :: r2) W) (h3 : laidMet Tryd.prog (("strconv.ErrSyntax", Rows.laid_strconv_ErrSyntax) :: r3) W) : Tabs W := by
  refine ⟨?_, ?_, ?_⟩
  · exact Lib.tabIs_of_head (g := 0) (t := 109) (e := 89) (n := 20) (by kernel_rfl) rfl (by kernel_rfl) (by kernel_rfl) (by kernel_rfl) (by kernel_rfl) h1
  · obtain ⟨a, s, hv, -⟩ := laid_sentinel (g := 1) (tp := 124) (te := 126) (ts := 9) h3 (by kernel_rfl) rfl Tryd.underlying71 rowE Tryd.underlying124 Tryd.underlying126 rfl rfl Tryd.underlying9 (by kernel_rfl) (by kernel_rfl)
    exact ⟨_, _, hv⟩
  · obtain ⟨a, s, hv, -⟩ := laid_sentinel (g := 2) (tp := 124) (te := 126) (ts := 9) h2 (by kernel_rfl) rfl Tryd.underlying71 rowE Tryd.underlying124 Tryd.underlying126 rfl rfl Tryd.underlying9 (by kernel_rfl) (by kernel_rfl)
    exact ⟨_, _, hv⟩
abbrev synS : ByteArray := { data := #[105, 110, 118, 97, 108, 105, 100, 32, 115, 121, 110, 116, 97, 120] }
abbrev rngS : ByteArray := { data := #[118, 97, 108, 117, 101, 32, 111, 117, 116, 32, 111, 102, 32, 114, 97, 110, 103, 101] }
noncomputable def low : Nat := (World.holding Tryd.prog default ⟨#[], #[], []⟩).heap.size
def litV : DataW Unit → Value
  | .lit (.int k z) => .int k z
  | _ => .nilIface
def litL : DataW Unit → List Value
  | .agg l => l.map litV
  | x => [litV x]
def litA : DataW Unit → Array Value
  | .agg l => (l.flatMap litL).toArray
  | _ => #[]
def putC (cs : Array Value) : Obj → Obj
  | .cells _ t fz => .cells cs t fz
  | o => o
end Go.Proofs.YtmapinediglimaaDoor
/-
  A world that meets the list of seven variables: the library's tables, errors, and the tables of unicode/utf8. No condition.
-/
namespace Go.Proofs.YtmapinediglimaaDoor
set_option linter.unusedVariables false
set_option linter.unusedSimpArgs false
open Go.ChangeShapes Go.WideShapes Go.ChangeAt Go.RowKit Go.Joins Go.Deep
theorem firstE : Rows.laid_unicode_utf8_first = Lib.firstData := by kernel_rfl
theorem acceptE : (Rows.laid_unicode_utf8_acceptRanges : DataW Unit) = Lib.acceptData := by kernel_rfl
theorem tabs_of_laid {W : World} (h : laidMetH Tryd.prog Rows.requestBackRow.laid W) : Tabs W ∧ U8T W := by
  have h' : laidMet Tryd.prog [("math/bits.deBruijn32tab", Rows.laid_math_bits_deBruijn32tab), ("math/bits.deBruijn64tab", Rows.laid_math_bits_deBruijn64tab), ("internal/strconv.uint64pow10", Rows.laid_internal_strconv_uint64pow10), ("unicode/utf8.acceptRanges", Rows.laid_unicode_utf8_acceptRanges), ("strconv.ErrRange", Rows.laid_strconv_ErrRange), ("strconv.ErrSyntax", Rows.laid_strconv_ErrSyntax), ("unicode/utf8.first", Rows.laid_unicode_utf8_first)] W := h
  refine ⟨tabs_of h'.tail.tail h'.tail.tail.tail.tail h'.tail.tail.tail.tail.tail, ?_⟩
  have r1 : Lib.VarReads Tryd.prog W "unicode/utf8.first" Lib.firstData := by
    rw [← firstE]
    exact Lib.laidMet.reads h' (.tail _ (.tail _ (.tail _ (.tail _ (.tail _ (.tail _ (.head _)))))))
  have r2 : Lib.VarReads Tryd.prog W "unicode/utf8.acceptRanges" Lib.acceptData := by
    rw [← acceptE]
    exact Lib.laidMet.reads h' (.tail _ (.tail _ (.tail _ (.head _))))
  exact utf8Tabs_of_readsT (U8Types.of196 Tryd.laysValid) ⟨by kernel_rfl, by kernel_rfl, by kernel_rfl, by kernel_rfl, by kernel_rfl, by kernel_rfl, by kernel_rfl⟩ r1 r2
noncomputable def laidWorld (os : Os) : World :=
  let w0 := World.holding Tryd.prog os ⟨#[.cells #[.string synS] 126, .cells #[.string rngS] 126], #[], []⟩
  { w0 with heap := ((((((w0.heap.modify 1 (putC #[.iface 124 (.pointer (some ⟨low, 0, none⟩))])).modify 2 (putC #[.iface 124 (.pointer (some ⟨low + 1, 0, none⟩))])).modify 0 (putC (litA Rows.laid_internal_strconv_uint64pow10))).modify 5 (putC (litA Rows.laid_math_bits_deBruijn32tab))).modify 6 (putC (litA Rows.laid_math_bits_deBruijn64tab))).modify 4 (putC (litA Rows.laid_unicode_utf8_acceptRanges))).modify 3 (putC (litA Rows.laid_unicode_utf8_first)) }
theorem laidWorld_met (os : Os) (args : Array Value) : laidMetH Tryd.prog Rows.requestBackRow.laid ((laidWorld os).forCall (fun _ _ => 0) ⟨#[], args, []⟩).memory :=
  show laidMet Tryd.prog Rows.requestBackRow.laid ((laidWorld os).forCall (fun _ _ => 0) ⟨#[], args, []⟩).memory from laidMet_of_run3 8 (by kernel_rfl) (by kernel_rfl) (by kernel_rfl)
end Go.Proofs.YtmapinediglimaaDoor
