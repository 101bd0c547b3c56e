/-
  errors.Unwrap and Depth at a chain. No condition.
-/
import Derived.Test.YtegdmfpdelboaaaDoorFaultMake
import Derived.Stop.Asserts
namespace Go.Proofs.YtegdmfpdelboaaaDoor
set_option linter.unusedVariables false
set_option linter.unusedSimpArgs false
open Go.RowKit
theorem noUnwrap (v : Value) (xT : TypeId) (w : World) : (Instr.typeAssert (.iface 54 v) xT 55 true).run Tryd.prog w = .ok (.tuple #[.nilIface, .bool false]) w :=
  run_typeAssert_lacksB Tryd.underlying55 (by kernel_rfl) (by kernel_rfl) v xT w
theorem hasUnwrap (v : Value) (xT : TypeId) (w : World) : (Instr.typeAssert (.iface 48 v) xT 55 true).run Tryd.prog w = .ok (.tuple #[.iface 48 v, .bool true]) w :=
  run_typeAssert_hasB Tryd.underlying55 (by kernel_rfl) v xT w
theorem isPlaced (v : Value) (w : World) : (Instr.typeAssert (.iface 48 v) 28 48 true).run Tryd.prog w = .ok (.tuple #[v, .bool true]) w := by kernel_rfl
theorem isNoPlaced (v : Value) (w : World) : (Instr.typeAssert (.iface 54 v) 28 48 true).run Tryd.prog w = .ok (.tuple #[.pointer none, .bool false]) w := by kernel_rfl
theorem unwrapM_any (B : Nat) (u : Value) (w : World) (h : w.cell? ⟨B, 0, none⟩ = some u) :
    Calls Tryd.prog 54 #[.pointer (some ⟨B, 0, none⟩)] w fun e w' => e = .returned u ∧ w = w' := by
  go_enter Tryd.func54, Tryd.ntmps54
  go_wp2
  go_ret
  exact ⟨rfl, rfl⟩
theorem unwrap_fault (x : Value) (w : World) :
    Calls Tryd.prog 20 #[.iface 54 x] w fun e w' => e = .returned .nilIface ∧ w = w' := by
  have hn := noUnwrap
  go_enter Tryd.func20, Tryd.ntmps20
  go_wp2
  go_ret
  exact ⟨rfl, rfl⟩
set_option maxRecDepth 20000 in
theorem unwrap_placed (B : Nat) (u : Value) (w : World) (h : w.cell? ⟨B, 0, none⟩ = some u) :
    Calls Tryd.prog 20 #[.iface 48 (.pointer (some ⟨B, 0, none⟩))] w fun e w' => e = .returned u ∧ w = w' := by
  have hn := hasUnwrap
  have hm : ∀ w : World, (method 220 48 (.pointer (some ⟨B, 0, none⟩)) "Unwrap").run Tryd.prog w = .ok (54, .pointer (some ⟨B, 0, none⟩)) w := fun _ => by kernel_rfl
  go_enter Tryd.func20, Tryd.ntmps20
  go_wp2_with (go_at_call 54; refine (unwrapM_any B u _ h).mono ?_; rintro e w1 ⟨rfl, rfl⟩)
  go_ret
  exact ⟨rfl, rfl⟩
end Go.Proofs.YtegdmfpdelboaaaDoor
