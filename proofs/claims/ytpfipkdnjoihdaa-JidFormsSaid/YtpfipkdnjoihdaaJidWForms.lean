/-
  The walk of JidForms: the program's forms of an address and the reference's are the same.
-/
import Derived.Test.YtpfipkdnjoihdaaJidLive
import Derived.Deep.RegionHeld3
namespace Go.Proofs.Ytpfipkdnjoihdaa
set_option linter.unusedVariables false
set_option linter.unusedSimpArgs false
open Go.RowKit
attribute [local go_sem] setCell_drewN alloc_drewN drewN_drewN drew_drewN drewN_drew mk_get lt2 lt3 lt4 lt5 lt6 lt7 lt8
set_option maxHeartbeats 4000000 in
theorem jidForms_walk (x y z : List UInt8) (w : World) (hx : x.length ≤ 140737488351232) (hy : y.length ≤ 140737488351232) (hz : z.length ≤ 140737488351232) :
    Calls Try.prog 7 #[.agg #[.string ⟨x.toArray⟩, .string ⟨y.toArray⟩, .string ⟨z.toArray⟩]] w fun e w' => e = .returned (.bool true) ∧ Below w.heap.size w w' := by
  have hL := Lib.hid live_any
  go_enter Try.func7, Try.ntmps7
  go_wp2
  go_region_held3 (fun W => W.cell? ⟨w.heap.size, 0, none⟩ = some (.string ⟨x.toArray⟩) ∧ W.cell? ⟨w.heap.size, 1, none⟩ = some (.string ⟨y.toArray⟩) ∧ W.cell? ⟨w.heap.size, 2, none⟩ = some (.string ⟨z.toArray⟩) ∧ Below w.heap.size w W ∧ w.heap.size < W.heap.size) (first | exact keepJ (by assumption) hb | exact keep0 w _ | exact keepD (by assumption))
    (first
      | (go_at_call 12; refine (hL.out _).mono ?_; rintro e w1 ⟨rfl, hb⟩)
      | (go_at_call 17; refine (bareB _ _ _ _).mono ?_; rintro e w1 ⟨rfl, hb⟩)
      | (go_at_call 18; refine (bare0B _ _ _ _).mono ?_; rintro e w1 ⟨rfl, hb⟩)
      | (go_at_call 19; refine (normalB _ _ _ _ (by omega) (by omega) (by omega)).mono ?_; rintro e w1 ⟨rfl, hb⟩)
      | (go_at_call 20; refine (normal0B _ _ _ _ (by omega) (by omega) (by omega)).mono ?_; rintro e w1 ⟨rfl, hb⟩))
  go_wp2
  go_ret
  exact ⟨rfl, keepB (by assumption)⟩
end Go.Proofs.Ytpfipkdnjoihdaa
