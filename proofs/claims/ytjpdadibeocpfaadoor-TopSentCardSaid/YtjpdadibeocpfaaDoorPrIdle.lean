/-
  The deferred closure of Feed where nothing panicked; New; Depth. No condition.
-/
import Derived.Test.YtjpdadibeocpfaaDoorPrMa
import Derived.Defers
import Derived.Recover
namespace Go.Proofs.YtjpdadibeocpfaaDoor
set_option linter.unusedVariables false
set_option linter.unusedSimpArgs false
open Go.RowKit Go.MapKept Go.Proofs
variable {K : Nat → Prop}
set_option maxRecDepth 100000 in
set_option maxHeartbeats 2000000 in
theorem feed1_idle (p q : Addr) (w : World) :
    CallsD Tryd.prog 17 #[.pointer (some p), .pointer (some q)] .returning w fun e u' w' => e = .returned (.tuple #[]) ∧ u' = .returning ∧ w' = w := by
  refine callsD_of_wpS Tryd.func17 rfl fun c₀ cs hu => ?_
  apply wpS_seq
  apply wpS_region
  simp [wpOpsS, go_sem, recoverD, hu, Tryd.ntmps17, Exit.thenS]
  have hq : ∀ w, (binOp .eql 20 .nilIface .nilIface).run Tryd.prog w = .ok (.bool true) w := fun w => by kernel_rfl
  have ht : (#[.pointer (some p), .pointer (some q)] ++ (Array.replicate 16 undef).setIfInBounds 3 .nilIface : Array Value) = #[.pointer (some p), .pointer (some q), undef, undef, undef, .nilIface, undef, undef, undef, undef, undef, undef, undef, undef, undef, undef, undef, undef] := rfl
  rw [ht]
  refine wpS_of_wp ?_
  go_wp2
  clear hq ht
  cases c₀
  simp_all [bodyPostS, results, Tryd.results17]
theorem xnew_any (w : World) : Calls Tryd.prog 6 #[] w fun e w' => e = .returned (.pointer (some ⟨w.heap.size, 0, none⟩)) ∧ w' = w.alloc (PrObj (.slice none 0 0) 0 (.slice none 0 0) false false) := by
  go_enter Tryd.func6, Tryd.ntmps6
  go_wp2
  go_ret
  exact ⟨rfl, rfl⟩
theorem new_ps (w : World) : PsAt K (w.heap.size + 1) w.heap.size (w.alloc (PrObj (.slice none 0 0) 0 (.slice none 0 0) false false)) ⟨[], 0, [], false⟩ :=
  ⟨Nat.lt_succ_self _, _, _, false, (heap_alloc _ _).1, World.ownsRow_nil _ _ _ _, World.ownsRow_nil _ _ _ _, fun r hr => by cases hr⟩
theorem xdepth_any (n0 B : Nat) (S : Ps) (w : World) (hP : PsAt K n0 B w S) : Calls Tryd.prog 10 #[.pointer (some ⟨B, 0, none⟩)] w fun e w' => e = .returned (.int .i64 S.op.length) ∧ w = w' := by
  obtain ⟨hBn, wv, ov, an, hobj, hOw, hOo, -⟩ := hP
  obtain ⟨oa, oc, rfl⟩ := owns_val hOo
  obtain ⟨c0, c1, c2, c3, c4, c5, hfz, hBl⟩ := pr_cells hobj
  generalize S.op.length = N at c2 ⊢
  clear hOo hOw hobj
  go_enter Tryd.func10, Tryd.ntmps10
  go_wp2
  go_ret
  exact ⟨rfl, rfl⟩
end Go.Proofs.YtjpdadibeocpfaaDoor
