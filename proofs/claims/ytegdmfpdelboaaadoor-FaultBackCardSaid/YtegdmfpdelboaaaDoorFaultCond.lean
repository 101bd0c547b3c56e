/-
  Cond and Place at a chain. Condition: errorType is laid.
-/
import Derived.Test.YtegdmfpdelboaaaDoorFaultAs4
namespace Go.Proofs.YtegdmfpdelboaaaDoor
set_option linter.unusedVariables false
set_option linter.unusedSimpArgs false
open Go.RowKit Go.Extern.Stop Go.Stop Go.Extern
/-- errors.errorType is laid -/
def G0 (w : World) : Prop := w.cell? ⟨0, 0, none⟩ = some (.iface 76 (.agg #[.pointer (some ⟨1, 28, none⟩)]))
theorem G0.lt {w : World} (hg : G0 w) : 0 < w.heap.size := by
  rcases Nat.eq_zero_or_pos w.heap.size with h0 | h
  · simp [G0, World.cell?, h0] at hg
  · exact h
theorem G0.below {w w' : World} (hg : G0 w) (hb : Below w.heap.size w w') : G0 w' := ((bat hb 0 hg.lt).1 0).trans hg
theorem cond_any (c : Int) (ps : List Int) (v : Value) (w : World) (h : Ch w c ps v) (hg : G0 w) :
    Calls Tryd.prog 21 #[v] w fun e w' => e = .returned (.tuple #[.int .i64 c, .bool true]) ∧ Below w.heap.size w w' := by
  have hL := as_F w.heap.size c ps v (.int .i64 0) (w.alloc (.cells #[.int .i64 0] 54)) (h.below (below1 w _)) (hg.below (below1 w _)) (by simp) (by simp [go_sem])
  obtain ⟨tv, xv, hv⟩ := h.iface
  subst hv
  go_enter Tryd.func21, Tryd.ntmps21
  go_wp2_with (go_at_call 26; refine hL.mono ?_; rintro e w1 ⟨rfl, hc, hb⟩)
  go_ret2
  exact ⟨rfl, (below1 w _).trans hb⟩
theorem cond_nil (w : World) :
    Calls Tryd.prog 21 #[.nilIface] w fun e w' => e = .returned (.tuple #[.int .i64 0, .bool false]) ∧ Below w.heap.size w w' := by
  go_enter Tryd.func21, Tryd.ntmps21
  go_wp2_with (go_at_call 26; refine (as_nil _ _).mono ?_; rintro e w1 ⟨rfl, rfl⟩)
  go_ret2
  exact ⟨rfl, below1 w _⟩
theorem place_nil (w : World) :
    Calls Tryd.prog 14 #[.nilIface] w fun e w' => e = .returned (.tuple #[.int .i64 0, .bool false]) ∧ Below w.heap.size w w' := by
  go_enter Tryd.func14, Tryd.ntmps14
  go_wp2_with (go_at_call 26; refine (as_nil _ _).mono ?_; rintro e w1 ⟨rfl, rfl⟩)
  go_ret2
  exact ⟨rfl, below1 w _⟩
theorem place_bare (x : Value) (w : World) (hg : G0 w) :
    Calls Tryd.prog 14 #[.iface 54 x] w fun e w' => e = .returned (.tuple #[.int .i64 0, .bool false]) ∧ Below w.heap.size w w' := by
  have hL := as_missE x ⟨w.heap.size, 0, none⟩ (.pointer none) (w.alloc (.cells #[.pointer none] 48)) (hg.below (below1 w _)) (by simp) (by simp [go_sem])
  go_enter Tryd.func14, Tryd.ntmps14
  go_wp2_with (go_at_call 26; refine hL.mono ?_; rintro e w1 ⟨rfl, o1, o2, o3, rfl⟩)
  go_ret2
  exact ⟨rfl, belowT (belowT (belowT (below1 w _) (below1 _ _)) (below1 _ _)) (below1 _ _)⟩
theorem place_wrapped (B : Nat) (p : Int) (w : World) (hB : B < w.heap.size) (hp : w.cell? ⟨B, 1, none⟩ = some (.int .i64 p)) (hg : G0 w) :
    Calls Tryd.prog 14 #[.iface 48 (.pointer (some ⟨B, 0, none⟩))] w fun e w' => e = .returned (.tuple #[.int .i64 p, .bool true]) ∧ Below w.heap.size w w' := by
  have hL := as_hitE ⟨B, 0, none⟩ ⟨w.heap.size, 0, none⟩ (.pointer none) (w.alloc (.cells #[.pointer none] 48)) (hg.below (below1 w _)) (by simp) (by simp [go_sem])
  have hL2 : Calls Tryd.prog 26 #[.iface 48 (.pointer (some ⟨B, 0, none⟩)), .iface 50 (.pointer (some ⟨w.heap.size, 0, none⟩))] (w.alloc (.cells #[.pointer none] 48))
      fun e w' => e = .returned (.bool true) ∧ w'.cell? ⟨w.heap.size, 0, none⟩ = some (.pointer (some ⟨B, 0, none⟩)) ∧ w'.cell? ⟨B, 1, none⟩ = some (.int .i64 p) ∧ Below w.heap.size w w' := by
    refine hL.mono ?_
    rintro e w1 ⟨rfl, rfl⟩
    have hb : ∀ o1 o2 o3 o4 u, Below w.heap.size w ((((((w.alloc (.cells #[.pointer none] 48)).alloc o1).alloc o2).alloc o3).alloc o4).setCell ⟨w.heap.size, 0, none⟩ u) := fun o1 o2 o3 o4 u =>
      (belowT (belowT (belowT (belowT (below1 w _) (below1 _ _)) (below1 _ _)) (below1 _ _)) (below1 _ _)).setCell (Nat.le_refl _) _
    refine ⟨rfl, ?_, ?_, hb _ _ _ _ _⟩
    · rw [World.cell?_setCell_same']
      rw [World.cell?_alloc_lt _ _ _ (by simp; omega), World.cell?_alloc_lt _ _ _ (by simp; omega), World.cell?_alloc_lt _ _ _ (by simp; omega), World.cell?_alloc_lt _ _ _ (by simp)]
      simp
    · rw [(bat (hb _ _ _ _ _) B hB).1 1, hp]
  go_enter Tryd.func14, Tryd.ntmps14
  go_wp2_with (go_at_call 26; refine hL2.mono ?_; rintro e w1 ⟨rfl, hc0, hc1, hb⟩)
  go_ret2
  exact ⟨rfl, hb⟩
end Go.Proofs.YtegdmfpdelboaaaDoor
