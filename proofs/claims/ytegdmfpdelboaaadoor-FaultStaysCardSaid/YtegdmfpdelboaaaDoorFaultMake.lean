/-
  Errors of conditions, wrapped: what Make and Wrap hand back. No condition.
-/
import Derived.Test.YtegdmfpdelboaaaDoorFaultParse
namespace Go.Proofs.YtegdmfpdelboaaaDoor
set_option linter.unusedVariables false
set_option linter.unusedSimpArgs false
open Go.RowKit
/-- an error of the condition c, wrapped with these places, the outermost first -/
def Ch (w : World) (c : Int) : List Int → Value → Prop
  | [], v => v = .iface 54 (.agg #[.int .i64 c])
  | p :: ps, v => ∃ B u, v = .iface 48 (.pointer (some ⟨B, 0, none⟩)) ∧ B < w.heap.size ∧ w.cell? ⟨B, 0, none⟩ = some u ∧ w.cell? ⟨B, 1, none⟩ = some (.int .i64 p) ∧ Ch w c ps u
theorem Ch.below {w w' : World} {c : Int} (hb : Below w.heap.size w w') : ∀ {ps : List Int} {v : Value}, Ch w c ps v → Ch w' c ps v
  | [], _, h => h
  | _ :: _, _, ⟨B, u, h1, h2, h3, h4, h5⟩ => by
    obtain ⟨hc, -⟩ := bat hb B h2
    exact ⟨B, u, h1, Nat.lt_of_lt_of_le h2 hb.size, (hc 0).trans h3, (hc 1).trans h4, h5.below hb⟩
theorem Ch.iface {w : World} {c : Int} : ∀ {ps : List Int} {v : Value}, Ch w c ps v → ∃ t x, v = .iface t x
  | [], _, h => ⟨_, _, h⟩
  | _ :: _, _, ⟨B, u, h1, _⟩ => ⟨_, _, h1⟩
theorem make_any (c : Int) (w : World) :
    Calls Tryd.prog 19 #[.int .i64 c] w fun e w' => (e = .returned (if knownB c then .iface 54 (.agg #[.int .i64 c]) else .nilIface)) ∧ w = w' := by
  cases hk : knownB c
  · go_enter Tryd.func19, Tryd.ntmps19
    go_wp2_with (go_at_call 24; refine (known_any _ _).mono ?_; rintro e w1 ⟨rfl, rfl⟩; rw [hk])
    go_ret
    exact ⟨rfl, rfl⟩
  · go_enter Tryd.func19, Tryd.ntmps19
    go_wp2_with (go_at_call 24; refine (known_any _ _).mono ?_; rintro e w1 ⟨rfl, rfl⟩; rw [hk])
    go_ret
    exact ⟨rfl, rfl⟩
theorem wrap_nil (p : Int) (w : World) :
    Calls Tryd.prog 15 #[.nilIface, .int .i64 p] w fun e w' => e = .returned .nilIface ∧ w = w' := by
  go_enter Tryd.func15, Tryd.ntmps15
  go_wp2
  go_ret
  exact ⟨rfl, rfl⟩
theorem wrap_any (t : TypeId) (x : Value) (p : Int) (w : World) :
    Calls Tryd.prog 15 #[.iface t x, .int .i64 p] w fun e w' => e = .returned (.iface 48 (.pointer (some ⟨w.heap.size, 0, none⟩))) ∧ w' = w.alloc (.cells #[.iface t x, .int .i64 p] 52) := by
  go_enter Tryd.func15, Tryd.ntmps15
  go_wp2
  go_ret
  exact ⟨rfl, rfl⟩
theorem Ch.wrap {w : World} {c p : Int} {ps : List Int} {v : Value} (h : Ch w c ps v) : Ch (w.alloc (.cells #[v, .int .i64 p] 52)) c (p :: ps) (.iface 48 (.pointer (some ⟨w.heap.size, 0, none⟩))) :=
  ⟨w.heap.size, v, rfl, by simp, by simp, by simp, h.below (below1 w _)⟩
end Go.Proofs.YtegdmfpdelboaaaDoor
