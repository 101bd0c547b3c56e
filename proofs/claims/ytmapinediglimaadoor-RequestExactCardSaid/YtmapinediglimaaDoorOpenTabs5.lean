/-
  A world that meets the list of five variables. No condition.
-/
import Derived.Test.YtmapinediglimaaDoorOpenTabs
namespace Go.Proofs.YtmapinediglimaaDoor
set_option linter.unusedVariables false
set_option linter.unusedSimpArgs false
open Go.ChangeShapes Go.WideShapes Go.ChangeAt Go.RowKit Go.Joins Go.Deep
theorem tabs_of_laid {W : World} (h : laidMetH Tryd.prog Rows.requestOneRow.laid W) : Tabs W := by
  have h' : laidMet Tryd.prog [("math/bits.deBruijn32tab", Rows.laid_math_bits_deBruijn32tab), ("math/bits.deBruijn64tab", Rows.laid_math_bits_deBruijn64tab), ("internal/strconv.uint64pow10", Rows.laid_internal_strconv_uint64pow10), ("strconv.ErrRange", Rows.laid_strconv_ErrRange), ("strconv.ErrSyntax", Rows.laid_strconv_ErrSyntax)] W := h
  exact tabs_of h'.tail.tail h'.tail.tail.tail h'.tail.tail.tail.tail
noncomputable def laidWorld (os : Os) : World :=
  let w0 := World.holding Tryd.prog os ⟨#[.cells #[.string synS] 126, .cells #[.string rngS] 126], #[], []⟩
  { w0 with heap := ((((w0.heap.modify 1 (putC #[.iface 124 (.pointer (some ⟨low, 0, none⟩))])).modify 2 (putC #[.iface 124 (.pointer (some ⟨low + 1, 0, none⟩))])).modify 0 (putC (litA Rows.laid_internal_strconv_uint64pow10))).modify 5 (putC (litA Rows.laid_math_bits_deBruijn32tab))).modify 6 (putC (litA Rows.laid_math_bits_deBruijn64tab)) }
theorem laidWorld_met (os : Os) (args : Array Value) : laidMetH Tryd.prog Rows.requestOneRow.laid ((laidWorld os).forCall (fun _ _ => 0) ⟨#[], args, []⟩).memory :=
  show laidMet Tryd.prog Rows.requestOneRow.laid ((laidWorld os).forCall (fun _ _ => 0) ⟨#[], args, []⟩).memory from laidMet_of_run3 8 (by kernel_rfl) (by kernel_rfl) (by kernel_rfl)
end Go.Proofs.YtmapinediglimaaDoor
