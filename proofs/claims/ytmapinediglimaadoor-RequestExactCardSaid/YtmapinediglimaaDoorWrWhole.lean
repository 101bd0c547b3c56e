/-
  Which tokens are right, and whole (write.Right, write.Whole). Condition: no text beyond the reach.
-/
import Derived.Test.YtmapinediglimaaDoorWrWalk
namespace Go.Proofs.YtmapinediglimaaDoor
set_option linter.unusedVariables false
set_option linter.unusedSimpArgs false
open Go.RowKit Go.MapKept Go.Shelf
attribute [local go_sem] Oper.semAt_some
/-- P4.1 -/
def rightL (l : List Tk) : Bool := decide (l.length ≤ 64) && (opsTo l l.length == some [])
theorem TkS.shape {w : World} {v : Value} {l : List Tk} (h : TkS w v l) : ∃ a c, v = .slice a l.length c := by
  obtain ⟨p, c, hv, -⟩ := h
  exact ⟨_, _, hv⟩
theorem keepPut {n₀ Bs Bo L : Nat} (A : World) (o : Obj) (h : L < A.heap.size) (h1 : n₀ ≤ L) (h2 : L ≠ Bs) (h3 : L < Bo) : KeepW n₀ Bs Bo A (A.putObj L o) := by
  have hg := grown_put (A := A) (l := L) o
  exact ⟨hg.os, hg.tape, hg.output, hg.size, fun k hk hc => hg.block k hk (fun e => by cases e; omega)⟩
theorem keepSet {n₀ Bs Bo b : Nat} (A : World) (v : Value) (h1 : n₀ ≤ b) (h2 : b ≠ Bs) (h3 : b < Bo) : KeepW n₀ Bs Bo A (A.setCell ⟨b, 0, none⟩ v) :=
  ⟨rfl, rfl, rfl, by simp [World.setCell], fun k hk hc => Below.heap_setCell _ _ _ _ (by show k ≠ b; omega)⟩
/-- how many rounds have come -/
def manyV : Nat → Int
  | 0 => 0
  | n + 1 => wrap64 (manyV n + 1)
theorem manyV_small : ∀ n : Nat, n ≤ 1000 → manyV n = n
  | 0, _ => rfl
  | n + 1, h => by
    rw [manyV, manyV_small n (by omega)]
    simp only [wrap64]
    omega
def lastD (pre : List (Nat × Nat)) : Nat := (pre.getLast?.map (·.2)).getD 0
theorem lastD_snoc (pre : List (Nat × Nat)) (x : Nat × Nat) : lastD (pre ++ [x]) = x.2 := by simp [lastD]
theorem cell_grown {A C : World} {row : Option Nat} {b : Nat} {v : Value} (hg : A.grownBy C row) (h : A.cell? ⟨b, 0, none⟩ = some v) (hne : some b ≠ row) : C.cell? ⟨b, 0, none⟩ = some v := hg.cell h hne
theorem frozen_grown {A C : World} {row : Option Nat} {b : Nat} {v : Value} (hg : A.grownBy C row) (h : A.cell? ⟨b, 0, none⟩ = some v) (hf : A.frozen? ⟨b, 0, none⟩ = false) (hne : some b ≠ row) : C.frozen? ⟨b, 0, none⟩ = false := by
  have hlt : b < A.heap.size := by
    rcases Nat.lt_or_ge b A.heap.size with h' | h'
    · exact h'
    · simp [World.cell?, Array.getElem?_eq_none h'] at h
  rw [World.frozen?_of_block (a := ⟨b, 0, none⟩) (hg.block b hlt hne)]
  exact hf
theorem start3 (w : World) (v0 v1 v2 : Value) (t0 t1 t2 : TypeId) : ((((w.alloc (.cells #[v0] t0)).alloc (.cells #[v1] t1)).alloc (.cells #[v2] t2)).cell? ⟨w.heap.size, 0, none⟩ = some v0 ∧ (((w.alloc (.cells #[v0] t0)).alloc (.cells #[v1] t1)).alloc (.cells #[v2] t2)).frozen? ⟨w.heap.size, 0, none⟩ = false) ∧
    ((((w.alloc (.cells #[v0] t0)).alloc (.cells #[v1] t1)).alloc (.cells #[v2] t2)).cell? ⟨w.heap.size + 1, 0, none⟩ = some v1 ∧ (((w.alloc (.cells #[v0] t0)).alloc (.cells #[v1] t1)).alloc (.cells #[v2] t2)).frozen? ⟨w.heap.size + 1, 0, none⟩ = false) ∧
    (((w.alloc (.cells #[v0] t0)).alloc (.cells #[v1] t1)).alloc (.cells #[v2] t2)).cell? ⟨w.heap.size + 1 + 1, 0, none⟩ = some v2 := by
  have e0 : ∀ (A : World) (v : Value) (t : TypeId) (b : Nat), b = A.heap.size → (A.alloc (.cells #[v] t)).cell? ⟨b, 0, none⟩ = some v ∧ (A.alloc (.cells #[v] t)).frozen? ⟨b, 0, none⟩ = false := fun A v t b hb => by subst hb; exact ⟨by simp, by simp⟩
  have a0 := e0 w v0 t0 _ rfl
  have a1 := e0 (w.alloc (.cells #[v0] t0)) v1 t1 (w.heap.size + 1) (by rw [World.size_alloc])
  have a2 := e0 ((w.alloc (.cells #[v0] t0)).alloc (.cells #[v1] t1)) v2 t2 (w.heap.size + 1 + 1) (by rw [World.size_alloc, World.size_alloc])
  refine ⟨⟨?_, ?_⟩, ⟨?_, ?_⟩, a2.1⟩
  · rw [World.cell?_alloc_lt _ _ ⟨w.heap.size, 0, none⟩ (by simp only [World.size_alloc]; omega), World.cell?_alloc_lt _ _ ⟨w.heap.size, 0, none⟩ (by simp only [World.size_alloc]; omega)]
    exact a0.1
  · rw [World.frozen?_alloc_old _ _ ⟨w.heap.size, 0, none⟩ (by simp only [World.size_alloc]; omega), World.frozen?_alloc_old _ _ ⟨w.heap.size, 0, none⟩ (by simp only [World.size_alloc]; omega)]
    exact a0.2
  · rw [World.cell?_alloc_lt _ _ ⟨w.heap.size + 1, 0, none⟩ (by simp only [World.size_alloc]; omega)]
    exact a1.1
  · rw [World.frozen?_alloc_old _ _ ⟨w.heap.size + 1, 0, none⟩ (by simp only [World.size_alloc]; omega)]
    exact a1.2
theorem start2 (w : World) (v0 v1 : Value) (t0 t1 : TypeId) : ((w.alloc (.cells #[v0] t0)).alloc (.cells #[v1] t1)).cell? ⟨w.heap.size, 0, none⟩ = some v0 ∧ ((w.alloc (.cells #[v0] t0)).alloc (.cells #[v1] t1)).cell? ⟨w.heap.size + 1, 0, none⟩ = some v1 ∧ ((w.alloc (.cells #[v0] t0)).alloc (.cells #[v1] t1)).frozen? ⟨w.heap.size + 1, 0, none⟩ = false := by
  have e0 : ∀ (A : World) (v : Value) (t : TypeId) (b : Nat), b = A.heap.size → (A.alloc (.cells #[v] t)).cell? ⟨b, 0, none⟩ = some v ∧ (A.alloc (.cells #[v] t)).frozen? ⟨b, 0, none⟩ = false := fun A v t b hb => by subst hb; exact ⟨by simp, by simp⟩
  have a0 := e0 w v0 t0 _ rfl
  have a1 := e0 (w.alloc (.cells #[v0] t0)) v1 t1 (w.heap.size + 1) (by rw [World.size_alloc])
  refine ⟨?_, a1⟩
  rw [World.cell?_alloc_lt _ _ ⟨w.heap.size, 0, none⟩ (by simp only [World.size_alloc]; omega)]
  exact a0.1
def RightI (w : World) (pre : List (Nat × Nat)) (W : World) : Prop :=
  (W.cell? ⟨w.heap.size, 0, none⟩ = some (.int .i64 (manyV pre.length)) ∧ W.frozen? ⟨w.heap.size, 0, none⟩ = false) ∧ (W.cell? ⟨w.heap.size + 1, 0, none⟩ = some (.int .i64 (lastD pre : Int)) ∧ W.frozen? ⟨w.heap.size + 1, 0, none⟩ = false) ∧ Below w.heap.size w W
theorem rightI_stands (w : World) (B : Nat) (hB : w.heap.size + 2 ≤ B) : Stands B (RightI w) := by
  rintro s A C row ⟨⟨c0, f0⟩, ⟨c1, f1⟩, hb⟩ hg hr
  have n0 : some w.heap.size ≠ row := fun e => by have := hr _ e.symm; omega
  have n1 : some (w.heap.size + 1) ≠ row := fun e => by have := hr _ e.symm; omega
  exact ⟨⟨cell_grown hg c0 n0, frozen_grown hg c0 f0 n0⟩, ⟨cell_grown hg c1 n1, frozen_grown hg c1 f1 n1⟩, hb.grown hg hb.size (fun k hk => by have := hr k hk; omega)⟩
theorem yields_len (l : List Tk) (m : Nat) : (yields l m).length = m := by simp [yields]
theorem opsTo_len {l : List Tk} : ∀ k op, opsTo l k = some op → op.length ≤ 8
  | 0, op, h => by simp [opsTo] at h; subst h; simp
  | k + 1, op, h => by
    unfold opsTo at h
    split at h
    · rename_i op0 tk h0 _
      have ih := opsTo_len k op0 h0
      unfold stepT at h
      split at h
      · cases h
      split at h
      · injection h with h; subst h; simp; omega
      split at h
      · injection h with h; subst h; simp; omega
      split at h
      · injection h with h; subst h; exact ih
      · cases h
    · cases h
theorem lastD_yields (l : List Tk) (m : Nat) : lastD (yields l m) = ((opsTo l m).getD []).length := by
  cases m with
  | zero => simp [lastD, yields, opsTo]
  | succ m => rw [yields_succ, lastD_snoc]
theorem rightL_of (tks : List Tk) (h64 : tks.length ≤ 64) {m : Nat} (hm : m ≤ tks.length) (hs : (opsTo tks m).isSome = true) (he : m = tks.length ∨ opsTo tks (m + 1) = none) : (decide (m = tks.length) && decide (((opsTo tks m).getD []).length = 0)) = rightL tks := by
  obtain ⟨op, hop⟩ := Option.isSome_iff_exists.1 hs
  by_cases e : m = tks.length
  · subst e
    simp only [rightL, h64, decide_true, Bool.true_and, hop, Option.getD_some]
    cases op with
    | nil => rfl
    | cons a r => simp
  · have hn : ∀ j, opsTo tks (m + 1 + j) = none := by
      intro j
      induction j with
      | zero => exact he.resolve_left e
      | succ j ih => rw [← Nat.add_assoc, opsTo, ih]
    have hz := hn (tks.length - (m + 1))
    rw [show m + 1 + (tks.length - (m + 1)) = tks.length by omega] at hz
    simp [rightL, e, hz]
end Go.Proofs.YtmapinediglimaaDoor
