/-
  What the program's Normal, and the reference's, compute. Each string shorter than the reach.
-/
import Derived.Test.YtoijpjmkjhoiaaaJidWalks6
import Derived.Deep.RegionHeld3
import Derived.Deep.DeepCutAuto
namespace Go.Proofs.Ytoijpjmkjhoiaaa
set_option linter.unusedVariables false
set_option linter.unusedSimpArgs false
open Go.RowKit
attribute [local go_sem] setCell_drewN alloc_drewN drewN_drewN drew_drewN drewN_drew mk_get lt2 lt3 lt4 lt5 lt6 lt7 lt8 lt9 lt10 lt11 lt12
set_option maxHeartbeats 4000000 in
theorem normal_any (l d r : List UInt8) (w : World) (h1 : l.length ≤ 140737488351232) (h2 : d.length ≤ 140737488351232) (h3 : r.length ≤ 140737488351232) :
    Calls Try.prog 32 #[.agg #[.string ⟨l.toArray⟩, .string ⟨d.toArray⟩, .string ⟨r.toArray⟩]] w fun e w' => e = .returned (.agg #[.string ⟨(lowL l).toArray⟩, .string ⟨(lowL d).toArray⟩, .string ⟨r.toArray⟩]) ∧ ∃ o1 o2 o3 o4 o5 n, w' = (((((w.alloc o1).alloc o2).alloc o3).alloc o4).alloc o5).drewN n := by
  go_enter Try.func32, Try.ntmps32
  go_wp2
  go_region_held3 (fun W => W.cell? ⟨w.heap.size, 0, none⟩ = some (.string ⟨l.toArray⟩) ∧ W.cell? ⟨w.heap.size, 1, none⟩ = some (.string ⟨d.toArray⟩) ∧ W.cell? ⟨w.heap.size, 2, none⟩ = some (.string ⟨r.toArray⟩)) (simp [go_sem])
    (first
      | (go_at_call 60; refine (low_any _ _ (by omega)).mono ?_; rintro e w1 ⟨rfl, o1, n1, rfl⟩))
  all_goals go_wp2
  all_goals go_ways
  all_goals exact bodyPost_ret (v := .agg #[.string ⟨(lowL l).toArray⟩, .string ⟨(lowL d).toArray⟩, .string ⟨r.toArray⟩]) (by simp [results, Try.results32, go_sem, *]) rfl ⟨rfl, _, _, _, _, _, _, rfl⟩
end Go.Proofs.Ytoijpjmkjhoiaaa
