/-
  Is; what must be whatever is asked (live); an error of a condition, wrapped so often (wrapped). Condition: errorType is laid.
-/
import Derived.Test.YtegdmfpdelboaaaDoorFaultIs
import Derived.Test.YtegdmfpdelboaaaDoorFaultDepth
namespace Go.Proofs.YtegdmfpdelboaaaDoor
set_option linter.unusedVariables false
set_option linter.unusedSimpArgs false
open Go.RowKit
theorem isF_any (o c : Int) (ps : List Int) (v : Value) (w : World) (h : Ch w c ps v) :
    Calls Tryd.prog 23 #[v, .int .i64 o] w fun e w' => e = .returned (.bool (knownB o && (c == o))) ∧ Below w.heap.size w w' := by
  cases hk : knownB o
  · go_enter Tryd.func23, Tryd.ntmps23
    go_wp2_with (go_at_call 24; refine (known_any _ _).mono ?_; rintro e w1 ⟨rfl, rfl⟩; rw [hk])
    go_ret
    exact ⟨rfl, Below.refl _ _⟩
  · go_enter Tryd.func23, Tryd.ntmps23
    go_wp2_with (first
      | (go_at_call 24; refine (known_any _ _).mono ?_; rintro e w1 ⟨rfl, rfl⟩; rw [hk])
      | (go_at_call 27; refine (is_any o c ps _ _ h).mono ?_; rintro e w1 ⟨rfl, hb⟩))
    go_ret
    exact ⟨rfl, hb⟩
theorem isF_nil (o : Int) (w : World) :
    Calls Tryd.prog 23 #[.nilIface, .int .i64 o] w fun e w' => e = .returned (.bool false) ∧ Below w.heap.size w w' := by
  cases hk : knownB o
  · go_enter Tryd.func23, Tryd.ntmps23
    go_wp2_with (go_at_call 24; refine (known_any _ _).mono ?_; rintro e w1 ⟨rfl, rfl⟩; rw [hk])
    go_ret
    exact ⟨rfl, Below.refl _ _⟩
  · go_enter Tryd.func23, Tryd.ntmps23
    go_wp2_with (first
      | (go_at_call 24; refine (known_any _ _).mono ?_; rintro e w1 ⟨rfl, rfl⟩; rw [hk])
      | (go_at_call 27; refine (is_nil o _).mono ?_; rintro e w1 ⟨rfl, rfl⟩))
    go_ret
    exact ⟨rfl, Below.refl _ _⟩
theorem live_any (w : World) (hg : G0 w) :
    Calls Tryd.prog 11 #[] w fun e w' => e = .returned (.bool true) ∧ Below w.heap.size w w' := by
  have hC : Ch (w.alloc (.cells #[.iface 54 (.agg #[.int .i64 2]), .int .i64 7] 52)) 2 [7] (.iface 48 (.pointer (some ⟨w.heap.size, 0, none⟩))) := Ch.wrap (w := w) (c := 2) (ps := []) rfl
  have hn : nameL 2 = [99, 111, 110, 102, 108, 105, 99, 116] := by decide
  have ht : typeL 2 = [99, 97, 110, 99, 101, 108] := by decide
  go_enter Tryd.func11, Tryd.ntmps11
  go_wp2_with (first
    | (go_at_call 19; refine (make_any _ _).mono ?_; rintro e w1 ⟨rfl, rfl⟩; rw [if_pos (show knownB 2 = true by decide)])
    | (go_at_call 15; refine (wrap_any _ _ _ _).mono ?_; rintro e w1 ⟨rfl, rfl⟩)
    | (go_at_call 21; refine (cond_any 2 _ _ _ hC (hg.below (below1 w _))).mono ?_; rintro e w1 ⟨rfl, hb⟩)
    | (go_at_call 10; refine (name_any _ _).mono ?_; rintro e w2 ⟨rfl, hb2⟩; rw [hn])
    | (go_at_call 9; refine (type_any _ _).mono ?_; rintro e w3 ⟨rfl, hb3⟩; rw [ht]))
  go_ret
  exact ⟨rfl, belowT (belowT (belowT (below1 w _) hb) hb2) hb3⟩
end Go.Proofs.YtegdmfpdelboaaaDoor
