/-
  Whether tokens are one whole element (write.Whole). Condition: no text beyond the reach.
-/
import Derived.Test.YtmapinediglimaaDoorWrWhole
namespace Go.Proofs.YtmapinediglimaaDoor
set_option linter.unusedVariables false
set_option linter.unusedSimpArgs false
open Go.RowKit Go.MapKept Go.Shelf
attribute [local go_sem] Oper.semAt_some
/-- P4.1 -/
def wholeL (l : List Tk) : Bool := rightL l && !l.isEmpty && decide (∀ j, j < l.length - 1 → opsTo l (j + 1) ≠ some [])
def WholeI (w : World) (tv : Value) (pre : List (Nat × Nat)) (W : World) : Prop :=
  (∀ x ∈ pre, x.2 ≠ 0) ∧ W.cell? ⟨w.heap.size, 0, none⟩ = some tv ∧ (W.cell? ⟨w.heap.size + 1, 0, none⟩ = some (.bool false) ∧ W.frozen? ⟨w.heap.size + 1, 0, none⟩ = false) ∧ Below w.heap.size w W
def WholeR (w : World) (n : Nat) (pre : List (Nat × Nat)) (W : World) : Prop :=
  ∃ pre0 x, pre = pre0 ++ [x] ∧ (∀ y ∈ pre0, y.2 ≠ 0) ∧ x.2 = 0 ∧ W.cell? ⟨w.heap.size + 1, 0, none⟩ = some (.bool ((x.1 : Int) == (n : Int) - 1)) ∧ Below w.heap.size w W
theorem wholeI_stands (w : World) (tv : Value) (B : Nat) (hB : w.heap.size + 2 ≤ B) : Stands B (WholeI w tv) := by
  rintro s A C row ⟨h, c0, ⟨c1, f1⟩, hb⟩ hg hr
  have n0 : some w.heap.size ≠ row := fun e => by have := hr _ e.symm; omega
  have n1 : some (w.heap.size + 1) ≠ row := fun e => by have := hr _ e.symm; omega
  exact ⟨h, cell_grown hg c0 n0, ⟨cell_grown hg c1 n1, frozen_grown hg c1 f1 n1⟩, hb.grown hg hb.size (fun k hk => by have := hr k hk; omega)⟩
theorem wholeR_stands (w : World) (n B : Nat) (hB : w.heap.size + 2 ≤ B) : Stands B (WholeR w n) := by
  rintro s A C row ⟨pre0, x, h1, h2, h3, c1, hb⟩ hg hr
  have n1 : some (w.heap.size + 1) ≠ row := fun e => by have := hr _ e.symm; omega
  exact ⟨pre0, x, h1, h2, h3, cell_grown hg c1 n1, hb.grown hg hb.size (fun k hk => by have := hr k hk; omega)⟩
theorem wholeL_of (tks : List Tk) (hr : rightL tks = true) (h0 : tks ≠ []) {m : Nat} (hm : m < tks.length) (hs : (opsTo tks (m + 1)).isSome = true) (hz : ((opsTo tks (m + 1)).getD []).length = 0) (hn : ∀ x ∈ yields tks m, x.2 ≠ 0) : ((m : Int) == (tks.length : Int) - 1) = wholeL tks := by
  obtain ⟨op, hop⟩ := Option.isSome_iff_exists.1 hs
  rw [hop] at hz
  obtain rfl : op = [] := List.length_eq_zero_iff.1 hz
  have hne : tks.isEmpty = false := by cases tks with | nil => exact absurd rfl h0 | cons a r => rfl
  simp only [wholeL, hr, hne, Bool.true_and, Bool.not_false]
  rw [Bool.eq_iff_iff, beq_iff_eq, decide_eq_true_eq]
  constructor
  · intro e j hj hc
    have := hn (j, ((opsTo tks (j + 1)).getD []).length) (by simp only [yields, List.mem_map, List.mem_range]; exact ⟨j, by omega, rfl⟩)
    rw [hc] at this
    exact this rfl
  · intro h
    by_cases e : m = tks.length - 1
    · omega
    · exact absurd hop (h m (by omega))
end Go.Proofs.YtmapinediglimaaDoor
