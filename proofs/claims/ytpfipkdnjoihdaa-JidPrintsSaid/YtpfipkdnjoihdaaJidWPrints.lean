/-
  The walk of JidPrints: the program's Print and Right and the reference's are the same.
-/
import Derived.Test.YtpfipkdnjoihdaaJidLive
import Derived.Deep.RegionHeld3
namespace Go.Proofs.Ytpfipkdnjoihdaa
set_option linter.unusedVariables false
set_option linter.unusedSimpArgs false
open Go.RowKit
attribute [local go_sem] setCell_drewN alloc_drewN drewN_drewN drew_drewN drewN_drew mk_get lt2 lt3 lt4 lt5 lt6 lt7 lt8
set_option maxHeartbeats 4000000 in
theorem jidPrints_walk (x y z : List UInt8) (w : World) (hx : x.length ≤ 140737488351232) (hy : y.length ≤ 140737488351232) (hz : z.length ≤ 140737488351232) :
    Calls Try.prog 4 #[.agg #[.string ⟨x.toArray⟩, .string ⟨y.toArray⟩, .string ⟨z.toArray⟩]] w fun e w' => e = .returned (.bool true) ∧ Below w.heap.size w w' := by
  have hL := Lib.hid live_any
  go_enter Try.func4, Try.ntmps4
  go_wp2_with fail
  refine (print_any _ _ _ _ (by omega) (by omega) (by omega)).mono ?_
  rintro e w1 ⟨rfl, hb⟩
  have k1 := keepJ (keepN w _) hb
  clear hb
  have c1 := k1.1
  have c2 := k1.2.1
  have c3 := k1.2.2.1
  have HK := Lib.hid k1
  clear k1
  go_wp2_with fail
  refine (print0_any _ _ _ _ (by omega) (by omega) (by omega)).mono ?_
  rintro e w2 ⟨rfl, hb⟩
  have k1 := keepJ HK.out hb
  clear c1 c2 c3 hb HK
  go_wp2_with fail
  have K := keepD k1
  clear k1
  go_region_held3 (fun W => W.cell? ⟨w.heap.size, 0, none⟩ = some (.string ⟨x.toArray⟩) ∧ W.cell? ⟨w.heap.size, 1, none⟩ = some (.string ⟨y.toArray⟩) ∧ W.cell? ⟨w.heap.size, 2, none⟩ = some (.string ⟨z.toArray⟩) ∧ Below w.heap.size w W ∧ w.heap.size < W.heap.size) (first | exact keepJ (by assumption) hb | exact K | exact keepD (by assumption))
    (first
      | (go_at_call 12; refine (hL.out _).mono ?_; rintro e w3 ⟨rfl, hb⟩)
      | (go_at_call 15; refine (right_any _ _ _ _ (by omega) (by omega) (by omega)).mono ?_; rintro e w3 ⟨rfl, hb⟩)
      | (go_at_call 16; refine (right0_any _ _ _ _ (by omega) (by omega) (by omega)).mono ?_; rintro e w3 ⟨rfl, hb⟩))
  go_wp2
  go_ret
  exact ⟨by simp, keepB (by assumption)⟩
end Go.Proofs.Ytpfipkdnjoihdaa
