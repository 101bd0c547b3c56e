/-
  Which tokens are right, and whole (write.Right, write.Whole). Condition: no text beyond the reach.
-/
import Derived.Test.YtjpdadibeocpfaaDoorWrWalk
namespace Go.Proofs.YtjpdadibeocpfaaDoor
set_option linter.unusedVariables false
set_option linter.unusedSimpArgs false
open Go.RowKit Go.MapKept Go.Shelf
attribute [local go_sem] Oper.semAt_some
/-- P4.1 -/
def rightL (l : List Tk) : Bool := decide (l.length ≤ 64) && (opsTo l l.length == some [])
theorem walkF (tv : Value) (hv : ∃ a n c, tv = .slice a n c) (w : World) :
    Calls Tryd.prog 24 #[tv] w fun e w' => e = .returned (.func (.func 41) #[] #[.pointer (some ⟨w.heap.size, 0, none⟩)]) ∧ w' = w.alloc (.cells #[tv] 25) := by
  obtain ⟨a, n, c, rfl⟩ := hv
  go_enter Tryd.func24, Tryd.ntmps24
  go_wp2
  go_ret
  exact ⟨rfl, rfl⟩
theorem TkS.shape {w : World} {v : Value} {l : List Tk} (h : TkS w v l) : ∃ a c, v = .slice a l.length c := by
  obtain ⟨p, c, hv, -⟩ := h
  exact ⟨_, _, hv⟩
theorem right_gives (w : World) (tv : Value) (tks : List Tk) (hT : TkS w tv tks) (hsm : ∀ tk ∈ tks, tk.small) (hlen : tks.length ≤ 128) (W : World) (Bs : Nat) (hB : Below w.heap.size w W) (hBs : w.heap.size ≤ Bs ∧ Bs < W.heap.size) (hbox : W.cell? ⟨Bs, 0, none⟩ = some tv) :
    Gives Fence.wide 2 Tryd.prog 41 #[.pointer (some ⟨Bs, 0, none⟩)] (fun x : Nat × Nat => #[.int .i64 (x.1 : Int), .int .i64 (x.2 : Int)]) (KeepW w.heap.size Bs (W.heap.size + 2))
      (fun xs => ∃ m, m ≤ tks.length ∧ xs = yields tks m ∧ (opsTo tks m).isSome = true ∧ (m = tks.length ∨ opsTo tks (m + 1) = none))
      (fun pre => ∃ m, m < tks.length ∧ pre = yields tks (m + 1) ∧ (opsTo tks (m + 1)).isSome = true) W := by
  intro l J Jx W1 hb hsz hJ hJx hY h0
  refine walk1_in l Bs w.heap.size w rfl tv tks hT hsm hlen J Jx W1 (hB.trans (hb.mono hB.size)) ⟨hBs.1, by omega⟩ hJ hJx ?_ ((hb.cell (p := ⟨Bs, 0, none⟩) hBs.2).trans hbox) h0
  rw [hsz]
  exact hY
theorem keepPut {n₀ Bs Bo L : Nat} (A : World) (o : Obj) (h : L < A.heap.size) (h1 : n₀ ≤ L) (h2 : L ≠ Bs) (h3 : L < Bo) : KeepW n₀ Bs Bo A (A.putObj L o) := by
  have hg := grown_put (A := A) (l := L) o
  exact ⟨hg.os, hg.tape, hg.output, hg.size, fun k hk hc => hg.block k hk (fun e => by cases e; omega)⟩
theorem keepSet {n₀ Bs Bo b : Nat} (A : World) (v : Value) (h1 : n₀ ≤ b) (h2 : b ≠ Bs) (h3 : b < Bo) : KeepW n₀ Bs Bo A (A.setCell ⟨b, 0, none⟩ v) :=
  ⟨rfl, rfl, rfl, by simp [World.setCell], fun k hk hc => Below.heap_setCell _ _ _ _ (by show k ≠ b; omega)⟩
/-- how many rounds have come -/
def manyV : Nat → Int
  | 0 => 0
  | n + 1 => wrap64 (manyV n + 1)
theorem manyV_small : ∀ n : Nat, n ≤ 1000 → manyV n = n
  | 0, _ => rfl
  | n + 1, h => by
    rw [manyV, manyV_small n (by omega)]
    simp only [wrap64]
    omega
def lastD (pre : List (Nat × Nat)) : Nat := (pre.getLast?.map (·.2)).getD 0
theorem lastD_snoc (pre : List (Nat × Nat)) (x : Nat × Nat) : lastD (pre ++ [x]) = x.2 := by simp [lastD]
theorem cell_grown {A C : World} {row : Option Nat} {b : Nat} {v : Value} (hg : A.grownBy C row) (h : A.cell? ⟨b, 0, none⟩ = some v) (hne : some b ≠ row) : C.cell? ⟨b, 0, none⟩ = some v := hg.cell h hne
theorem frozen_grown {A C : World} {row : Option Nat} {b : Nat} {v : Value} (hg : A.grownBy C row) (h : A.cell? ⟨b, 0, none⟩ = some v) (hf : A.frozen? ⟨b, 0, none⟩ = false) (hne : some b ≠ row) : C.frozen? ⟨b, 0, none⟩ = false := by
  have hlt : b < A.heap.size := by
    rcases Nat.lt_or_ge b A.heap.size with h' | h'
    · exact h'
    · simp [World.cell?, Array.getElem?_eq_none h'] at h
  rw [World.frozen?_of_block (a := ⟨b, 0, none⟩) (hg.block b hlt hne)]
  exact hf
theorem start3 (w : World) (v0 v1 v2 : Value) (t0 t1 t2 : TypeId) : ((((w.alloc (.cells #[v0] t0)).alloc (.cells #[v1] t1)).alloc (.cells #[v2] t2)).cell? ⟨w.heap.size, 0, none⟩ = some v0 ∧ (((w.alloc (.cells #[v0] t0)).alloc (.cells #[v1] t1)).alloc (.cells #[v2] t2)).frozen? ⟨w.heap.size, 0, none⟩ = false) ∧
    ((((w.alloc (.cells #[v0] t0)).alloc (.cells #[v1] t1)).alloc (.cells #[v2] t2)).cell? ⟨w.heap.size + 1, 0, none⟩ = some v1 ∧ (((w.alloc (.cells #[v0] t0)).alloc (.cells #[v1] t1)).alloc (.cells #[v2] t2)).frozen? ⟨w.heap.size + 1, 0, none⟩ = false) ∧
    (((w.alloc (.cells #[v0] t0)).alloc (.cells #[v1] t1)).alloc (.cells #[v2] t2)).cell? ⟨w.heap.size + 1 + 1, 0, none⟩ = some v2 := by
  have e0 : ∀ (A : World) (v : Value) (t : TypeId) (b : Nat), b = A.heap.size → (A.alloc (.cells #[v] t)).cell? ⟨b, 0, none⟩ = some v ∧ (A.alloc (.cells #[v] t)).frozen? ⟨b, 0, none⟩ = false := fun A v t b hb => by subst hb; exact ⟨by simp, by simp⟩
  have a0 := e0 w v0 t0 _ rfl
  have a1 := e0 (w.alloc (.cells #[v0] t0)) v1 t1 (w.heap.size + 1) (by rw [World.size_alloc])
  have a2 := e0 ((w.alloc (.cells #[v0] t0)).alloc (.cells #[v1] t1)) v2 t2 (w.heap.size + 1 + 1) (by rw [World.size_alloc, World.size_alloc])
  refine ⟨⟨?_, ?_⟩, ⟨?_, ?_⟩, a2.1⟩
  · rw [World.cell?_alloc_lt _ _ ⟨w.heap.size, 0, none⟩ (by simp only [World.size_alloc]; omega), World.cell?_alloc_lt _ _ ⟨w.heap.size, 0, none⟩ (by simp only [World.size_alloc]; omega)]
    exact a0.1
  · rw [World.frozen?_alloc_old _ _ ⟨w.heap.size, 0, none⟩ (by simp only [World.size_alloc]; omega), World.frozen?_alloc_old _ _ ⟨w.heap.size, 0, none⟩ (by simp only [World.size_alloc]; omega)]
    exact a0.2
  · rw [World.cell?_alloc_lt _ _ ⟨w.heap.size + 1, 0, none⟩ (by simp only [World.size_alloc]; omega)]
    exact a1.1
  · rw [World.frozen?_alloc_old _ _ ⟨w.heap.size + 1, 0, none⟩ (by simp only [World.size_alloc]; omega)]
    exact a1.2
theorem start2 (w : World) (v0 v1 : Value) (t0 t1 : TypeId) : ((w.alloc (.cells #[v0] t0)).alloc (.cells #[v1] t1)).cell? ⟨w.heap.size, 0, none⟩ = some v0 ∧ ((w.alloc (.cells #[v0] t0)).alloc (.cells #[v1] t1)).cell? ⟨w.heap.size + 1, 0, none⟩ = some v1 ∧ ((w.alloc (.cells #[v0] t0)).alloc (.cells #[v1] t1)).frozen? ⟨w.heap.size + 1, 0, none⟩ = false := by
  have e0 : ∀ (A : World) (v : Value) (t : TypeId) (b : Nat), b = A.heap.size → (A.alloc (.cells #[v] t)).cell? ⟨b, 0, none⟩ = some v ∧ (A.alloc (.cells #[v] t)).frozen? ⟨b, 0, none⟩ = false := fun A v t b hb => by subst hb; exact ⟨by simp, by simp⟩
  have a0 := e0 w v0 t0 _ rfl
  have a1 := e0 (w.alloc (.cells #[v0] t0)) v1 t1 (w.heap.size + 1) (by rw [World.size_alloc])
  refine ⟨?_, a1⟩
  rw [World.cell?_alloc_lt _ _ ⟨w.heap.size, 0, none⟩ (by simp only [World.size_alloc]; omega)]
  exact a0.1
def RightI (w : World) (pre : List (Nat × Nat)) (W : World) : Prop :=
  (W.cell? ⟨w.heap.size, 0, none⟩ = some (.int .i64 (manyV pre.length)) ∧ W.frozen? ⟨w.heap.size, 0, none⟩ = false) ∧ (W.cell? ⟨w.heap.size + 1, 0, none⟩ = some (.int .i64 (lastD pre : Int)) ∧ W.frozen? ⟨w.heap.size + 1, 0, none⟩ = false) ∧ Below w.heap.size w W
theorem rightI_stands (w : World) (B : Nat) (hB : w.heap.size + 2 ≤ B) : Stands B (RightI w) := by
  rintro s A C row ⟨⟨c0, f0⟩, ⟨c1, f1⟩, hb⟩ hg hr
  have n0 : some w.heap.size ≠ row := fun e => by have := hr _ e.symm; omega
  have n1 : some (w.heap.size + 1) ≠ row := fun e => by have := hr _ e.symm; omega
  exact ⟨⟨cell_grown hg c0 n0, frozen_grown hg c0 f0 n0⟩, ⟨cell_grown hg c1 n1, frozen_grown hg c1 f1 n1⟩, hb.grown hg hb.size (fun k hk => by have := hr k hk; omega)⟩
theorem yields_len (l : List Tk) (m : Nat) : (yields l m).length = m := by simp [yields]
theorem opsTo_len {l : List Tk} : ∀ k op, opsTo l k = some op → op.length ≤ 8
  | 0, op, h => by simp [opsTo] at h; subst h; simp
  | k + 1, op, h => by
    unfold opsTo at h
    split at h
    · rename_i op0 tk h0 _
      have ih := opsTo_len k op0 h0
      unfold stepT at h
      split at h
      · cases h
      split at h
      · injection h with h; subst h; simp; omega
      split at h
      · injection h with h; subst h; simp; omega
      split at h
      · injection h with h; subst h; exact ih
      · cases h
    · cases h
theorem lastD_yields (l : List Tk) (m : Nat) : lastD (yields l m) = ((opsTo l m).getD []).length := by
  cases m with
  | zero => simp [lastD, yields, opsTo]
  | succ m => rw [yields_succ, lastD_snoc]
theorem rightL_of (tks : List Tk) (h64 : tks.length ≤ 64) {m : Nat} (hm : m ≤ tks.length) (hs : (opsTo tks m).isSome = true) (he : m = tks.length ∨ opsTo tks (m + 1) = none) : (decide (m = tks.length) && decide (((opsTo tks m).getD []).length = 0)) = rightL tks := by
  obtain ⟨op, hop⟩ := Option.isSome_iff_exists.1 hs
  by_cases e : m = tks.length
  · subst e
    simp only [rightL, h64, decide_true, Bool.true_and, hop, Option.getD_some]
    cases op with
    | nil => rfl
    | cons a r => simp
  · have hn : ∀ j, opsTo tks (m + 1 + j) = none := by
      intro j
      induction j with
      | zero => exact he.resolve_left e
      | succ j ih => rw [← Nat.add_assoc, opsTo, ih]
    have hz := hn (tks.length - (m + 1))
    rw [show m + 1 + (tks.length - (m + 1)) = tks.length by omega] at hz
    simp [rightL, e, hz]
set_option maxRecDepth 100000 in
set_option maxHeartbeats 2000000 in
theorem right_walk (tv : Value) (tks : List Tk) (w : World) (hT : TkS w tv tks) (hsm : ∀ tk ∈ tks, tk.small) (h64 : tks.length ≤ 64) :
    Calls Tryd.prog 11 #[tv] w fun e w' => e = .returned (.bool (rightL tks)) ∧ Below w.heap.size w w' := by
  obtain ⟨ptr, cap, rfl⟩ := hT.shape
  have b64 : decide ((64 : Int) < (tks.length : Int)) = false := by simp; omega
  have hb3 : Below w.heap.size w (((w.alloc (.cells #[.int .i64 0] 3)).alloc (.cells #[.int .i64 0] 3)).alloc (.cells #[.slice ptr tks.length cap] 25)) := belowA (belowA (below1 w _) _) _
  have hG := right_gives w _ tks hT hsm (by omega) _ (w.heap.size + 1 + 1) hb3 (by simp only [World.size_alloc]; omega) (start3 w _ _ _ _ _ _).2.2
  refine (callsIn_wide (n := 3)).1 ?_
  refine callsIn_of_wp_marks Tryd.func11 rfl trivial ?_ rfl
  simp only [Tryd.ntmps11, List.size_toArray, List.length_cons, List.length_nil, Nat.reduceAdd, Nat.reduceSub, Array.replicate_succ, Array.replicate_zero, List.push_toArray, List.append_toArray, List.nil_append, List.cons_append]
  gi_wp2_with (refine ⟨trivial, ?_⟩; gi_at_call 24; refine (callsIn_wide.2 (walkF _ ⟨_, _, _, rfl⟩ _)).mono ?_; rintro e w1 ⟨rfl, rfl⟩)
  refine range_own rfl (by decide) (gf := 41) (lb := #[.pointer (some ⟨w.heap.size + 1 + 1, 0, none⟩)]) rfl trivial (enters_of Tryd.func41 (by kernel_rfl) rfl) hG (fun _ => rfl) (fun h k => h.trans k)
    (fun A o h => keepPut A o h (by simp only [World.size_alloc]; omega) (by simp only [World.size_alloc]; omega) (by simp only [World.size_alloc]; omega)) (RightI w) (fun _ _ => False) (rightI_stands w _ (by simp only [World.size_alloc]; omega)) (fun _ _ _ _ h _ _ => h) ⟨(start3 w _ _ _ _ _ _).1, (start3 w _ _ _ _ _ _).2.1, hb3⟩
    (fun x => { tmps := #[.slice ptr tks.length cap, undef, .bool false, .pointer (some ⟨w.heap.size, 0, none⟩), .pointer (some ⟨w.heap.size + 1, 0, none⟩), undef, .int .i64 (x.2 : Int), .slice ptr tks.length cap, .int .i64 (tks.length : Int), .bool false, .slice ptr tks.length cap, .func (.func 41) #[] #[.pointer (some ⟨w.heap.size + 1 + 1, 0, none⟩)], .int .i64 (x.1 : Int), .int .i64 (x.2 : Int), undef, undef, undef, undef, undef, undef, undef, undef, undef, undef, undef], defers := [] }) ?assign ?body ?done ?stop
  case assign =>
    intro l x W K hK
    gi_wp2
    exact hK
  case body =>
    rintro l pre x W ⟨⟨c0, f0⟩, ⟨c1, f1⟩, hB⟩
    gi_wp2
    refine ⟨((KeepsOthers.setCell _ _ _).trans (KeepsOthers.setCell _ _ _)).from _, (keepSet W _ (Nat.le_refl _) (by omega) (by simp only [World.size_alloc]; omega)).trans (keepSet _ _ (by omega) (by omega) (by simp only [World.size_alloc]; omega)), ⟨?_, ?_⟩, ⟨?_, ?_⟩, ?_⟩
    · rw [World.cell?_setCell_other (h := by simp), World.cell?_setCell_same' _ _ _ (by rw [c0]; rfl), List.length_append]
      rfl
    · rw [World.frozen?_setCell, World.frozen?_setCell]; exact f0
    · rw [World.cell?_setCell_same' _ _ _ (by rw [World.cell?_setCell_other (h := by simp), c1]; rfl), lastD_snoc]
    · rw [World.frozen?_setCell, World.frozen?_setCell]; exact f1
    · exact (hB.setCell (p := ⟨w.heap.size, 0, none⟩) (Nat.le_refl _) _).setCell (p := ⟨w.heap.size + 1, 0, none⟩) (by show w.heap.size ≤ w.heap.size + 1; omega) _
  case done =>
    rintro xs W ⟨m, hm, rfl, hs, he⟩ ⟨⟨c0, f0⟩, ⟨c1, f1⟩, hB⟩ hK
    rw [yields_len, manyV_small m (by omega)] at c0
    rw [lastD_yields] at c1
    have hkey := rightL_of tks h64 hm hs he
    simp only [World.size_alloc] at hK
    revert c1 hkey
    generalize ((opsTo tks m).getD []).length = z
    intro c1 hkey
    have hz : ((z : Int) == 0) = decide (z = 0) := by rw [Bool.eq_iff_iff, beq_iff_eq, decide_eq_true_eq]; omega
    have hend := hB.trans (belowK_b (w := w) (Nat.le_refl _) W (w.heap.size + 1 + 1 + 1) _ (.deferred none) (by omega) hK rfl rfl)
    by_cases em : m = tks.length
    · have bm : ((m : Int) == (tks.length : Int)) = true := by rw [em]; simp
      simp only [World.size_alloc]
      gi_wp2
      refine ⟨by simp, .inl ⟨_, _, rfl, run_takeDeferred hK, ?_⟩⟩
      refine ⟨_, results_tmp rfl _ _ _, ?_, hend⟩
      rw [← hkey]
      first
        | (show Ending.returned (.bool (decide (z = 0))) = Ending.returned (.bool (decide (m = tks.length) && decide (z = 0))); rw [em]; simp)
        | (show Ending.returned (.bool ((z : Int) == 0)) = Ending.returned (.bool (decide (m = tks.length) && decide (z = 0))); rw [hz, em]; simp)
    · have bm : ((m : Int) == (tks.length : Int)) = false := by rw [beq_eq_false_iff_ne]; omega
      simp only [World.size_alloc]
      gi_wp2
      refine ⟨by simp, .inl ⟨_, _, rfl, run_takeDeferred hK, ?_⟩⟩
      refine ⟨_, results_tmp rfl _ _ _, ?_, hend⟩
      rw [← hkey]
      show Ending.returned (.bool false) = Ending.returned (.bool (decide (m = tks.length) && decide (z = 0)))
      simp [em]
  case stop =>
    rintro pre W _ h _
    exact h.elim
theorem right_full (tv : Value) (tks : List Tk) (w : World) (hT : TkS w tv tks) (hsm : ∀ tk ∈ tks, tk.small) :
    Calls Tryd.prog 11 #[tv] w fun e w' => e = .returned (.bool (rightL tks)) ∧ Below w.heap.size w w' := by
  by_cases h64 : tks.length ≤ 64
  · exact right_walk tv tks w hT hsm h64
  · obtain ⟨ptr, cap, rfl⟩ := hT.shape
    have b64 : decide ((64 : Int) < (tks.length : Int)) = true := by simp; omega
    have hr : rightL tks = false := by simp [rightL, h64]
    rw [hr]
    go_enter Tryd.func11, Tryd.ntmps11
    go_wp2
    go_ret
    exact ⟨rfl, Below.refl _ _⟩
end Go.Proofs.YtjpdadibeocpfaaDoor
/-
  Whether tokens are one whole element (write.Whole). Condition: no text beyond the reach.
-/
namespace Go.Proofs.YtjpdadibeocpfaaDoor
set_option linter.unusedVariables false
set_option linter.unusedSimpArgs false
open Go.RowKit Go.MapKept Go.Shelf
attribute [local go_sem] Oper.semAt_some
/-- P4.1 -/
def wholeL (l : List Tk) : Bool := rightL l && !l.isEmpty && decide (∀ j, j < l.length - 1 → opsTo l (j + 1) ≠ some [])
def WholeI (w : World) (tv : Value) (pre : List (Nat × Nat)) (W : World) : Prop :=
  (∀ x ∈ pre, x.2 ≠ 0) ∧ W.cell? ⟨w.heap.size, 0, none⟩ = some tv ∧ (W.cell? ⟨w.heap.size + 1, 0, none⟩ = some (.bool false) ∧ W.frozen? ⟨w.heap.size + 1, 0, none⟩ = false) ∧ Below w.heap.size w W
def WholeR (w : World) (n : Nat) (pre : List (Nat × Nat)) (W : World) : Prop :=
  ∃ pre0 x, pre = pre0 ++ [x] ∧ (∀ y ∈ pre0, y.2 ≠ 0) ∧ x.2 = 0 ∧ W.cell? ⟨w.heap.size + 1, 0, none⟩ = some (.bool ((x.1 : Int) == (n : Int) - 1)) ∧ Below w.heap.size w W
theorem wholeI_stands (w : World) (tv : Value) (B : Nat) (hB : w.heap.size + 2 ≤ B) : Stands B (WholeI w tv) := by
  rintro s A C row ⟨h, c0, ⟨c1, f1⟩, hb⟩ hg hr
  have n0 : some w.heap.size ≠ row := fun e => by have := hr _ e.symm; omega
  have n1 : some (w.heap.size + 1) ≠ row := fun e => by have := hr _ e.symm; omega
  exact ⟨h, cell_grown hg c0 n0, ⟨cell_grown hg c1 n1, frozen_grown hg c1 f1 n1⟩, hb.grown hg hb.size (fun k hk => by have := hr k hk; omega)⟩
theorem wholeR_stands (w : World) (n B : Nat) (hB : w.heap.size + 2 ≤ B) : Stands B (WholeR w n) := by
  rintro s A C row ⟨pre0, x, h1, h2, h3, c1, hb⟩ hg hr
  have n1 : some (w.heap.size + 1) ≠ row := fun e => by have := hr _ e.symm; omega
  exact ⟨pre0, x, h1, h2, h3, cell_grown hg c1 n1, hb.grown hg hb.size (fun k hk => by have := hr k hk; omega)⟩
theorem wholeL_of (tks : List Tk) (hr : rightL tks = true) (h0 : tks ≠ []) {m : Nat} (hm : m < tks.length) (hs : (opsTo tks (m + 1)).isSome = true) (hz : ((opsTo tks (m + 1)).getD []).length = 0) (hn : ∀ x ∈ yields tks m, x.2 ≠ 0) : ((m : Int) == (tks.length : Int) - 1) = wholeL tks := by
  obtain ⟨op, hop⟩ := Option.isSome_iff_exists.1 hs
  rw [hop] at hz
  obtain rfl : op = [] := List.length_eq_zero_iff.1 hz
  have hne : tks.isEmpty = false := by cases tks with | nil => exact absurd rfl h0 | cons a r => rfl
  simp only [wholeL, hr, hne, Bool.true_and, Bool.not_false]
  rw [Bool.eq_iff_iff, beq_iff_eq, decide_eq_true_eq]
  constructor
  · intro e j hj hc
    have := hn (j, ((opsTo tks (j + 1)).getD []).length) (by simp only [yields, List.mem_map, List.mem_range]; exact ⟨j, by omega, rfl⟩)
    rw [hc] at this
    exact this rfl
  · intro h
    by_cases e : m = tks.length - 1
    · omega
    · exact absurd hop (h m (by omega))
theorem load_bool (ad : Addr) (b : Bool) (w : World) (h : w.cell? ad = some (.bool b)) : (loadVar 4 ad).run Tryd.prog w = .ok (.bool b) w := by
  simp [loadVar, Tryd.isAgg4, h, go_sem]
set_option maxRecDepth 100000 in
set_option maxHeartbeats 2000000 in
theorem whole_walk (tv : Value) (tks : List Tk) (w : World) (hT : TkS w tv tks) (hsm : ∀ tk ∈ tks, tk.small) (h0 : tks ≠ []) (hr : rightL tks = true) :
    Calls Tryd.prog 32 #[tv] w fun e w' => e = .returned (.bool (wholeL tks)) ∧ Below w.heap.size w w' := by
  have h64 : tks.length ≤ 64 := by simp [rightL] at hr; exact hr.1
  have hl0 : 0 < tks.length := List.length_pos_iff.2 h0
  obtain ⟨ptr, cap, rfl⟩ := hT.shape
  have be : ((tks.length : Int) == 0) = false := by rw [beq_eq_false_iff_ne]; omega
  have hb2 : Below w.heap.size w ((w.alloc (.cells #[.slice ptr tks.length cap] 25)).alloc (.cells #[.bool false] 4)) := belowA (below1 w _) _
  have hR := right_full _ tks _ (hT.below hb2) hsm
  rw [hr] at hR
  refine (callsIn_wide (n := 3)).1 ?_
  refine callsIn_of_wp_marks Tryd.func32 rfl trivial ?_ rfl
  simp only [Tryd.ntmps32, List.size_toArray, List.length_cons, List.length_nil, Nat.reduceAdd, Nat.reduceSub, Array.replicate_succ, Array.replicate_zero, List.push_toArray, List.append_toArray, List.nil_append, List.cons_append]
  gi_wp2_with (first
    | (refine ⟨trivial, ?_⟩; gi_at_call 11; refine (callsIn_wide.2 hR).mono ?_; rintro e w3 ⟨rfl, hb3⟩; have d0 := ((bat hb3 w.heap.size (by simp; omega)).1 0).trans (start2 w _ _ _ _).1)
    | (refine ⟨trivial, ?_⟩; gi_at_call 24; refine (callsIn_wide.2 (walkF _ ⟨_, _, _, rfl⟩ _)).mono ?_; rintro e w1 ⟨rfl, rfl⟩))
  have hbl : Below w.heap.size w (w3.alloc (.cells #[.slice ptr tks.length cap] 25)) := belowA (belowT hb2 (hb3.mono (by simp))) _
  have hs3 := hb3.size
  simp only [World.size_alloc] at hs3
  have hG := right_gives w _ tks hT hsm (by omega) _ w3.heap.size hbl (by simp only [World.size_alloc]; omega) (by simp)
  have st := start2 w (.slice ptr tks.length cap) (.bool false) 25 4
  have k1 := bat hb3 (w.heap.size + 1) (by simp only [World.size_alloc]; omega)
  refine range_own rfl (by decide) (gf := 41) (lb := #[.pointer (some ⟨w3.heap.size, 0, none⟩)]) rfl trivial (enters_of Tryd.func41 (by kernel_rfl) rfl) hG (fun _ => rfl) (fun h k => h.trans k)
    (fun A o h => keepPut A o h (by simp only [World.size_alloc]; omega) (by simp only [World.size_alloc]; omega) (by simp only [World.size_alloc]; omega)) (WholeI w (.slice ptr tks.length cap)) (WholeR w tks.length) (wholeI_stands w _ _ (by simp only [World.size_alloc]; omega)) (wholeR_stands w _ _ (by simp only [World.size_alloc]; omega))
    ⟨fun _ h => (by cases h), (World.cell?_alloc_lt _ _ ⟨w.heap.size, 0, none⟩ (by show w.heap.size < w3.heap.size; omega)).trans d0, ⟨(World.cell?_alloc_lt _ _ ⟨w.heap.size + 1, 0, none⟩ (by show w.heap.size + 1 < w3.heap.size; omega)).trans ((k1.1 0).trans st.2.1), (World.frozen?_alloc_old _ _ ⟨w.heap.size + 1, 0, none⟩ (by show w.heap.size + 1 ≠ w3.heap.size; omega)).trans ((k1.2 0).trans st.2.2)⟩, hbl⟩
    (fun x => { tmps := #[.slice ptr tks.length cap, .pointer (some ⟨w.heap.size, 0, none⟩), .pointer (some ⟨w.heap.size + 1, 0, none⟩), .int .i64 (x.1 : Int), .int .i64 (x.2 : Int), .slice ptr tks.length cap, .int .i64 (tks.length : Int), .bool false, .bool false, .slice ptr tks.length cap, .bool true, .bool false, .bool false, .slice ptr tks.length cap, .func (.func 41) #[] #[.pointer (some ⟨w3.heap.size, 0, none⟩)], .int .i64 (x.1 : Int), .int .i64 (x.2 : Int), undef, undef, undef, undef, undef, undef, undef], defers := [] }) ?assign ?body ?done ?stop
  case assign =>
    intro l x W K hK
    gi_wp2
    exact hK
  case body =>
    rintro l pre x W ⟨hne, c0, ⟨c1, f1⟩, hB⟩
    by_cases hx : x.2 = 0
    · have bx : ((x.2 : Int) == 0) = true := by rw [hx]; rfl
      gi_wp2
      exact ⟨(KeepsOthers.setCell _ _ _).from _, pre, x, rfl, hne, hx, World.cell?_setCell_same' _ _ _ (by rw [c1]; rfl), hB.setCell (p := ⟨w.heap.size + 1, 0, none⟩) (by show w.heap.size ≤ w.heap.size + 1; omega) _⟩
    · have bx : ((x.2 : Int) == 0) = false := by rw [beq_eq_false_iff_ne]; omega
      gi_wp2
      refine ⟨KeepsFrom.refl _ _, ⟨rfl, rfl, rfl, Nat.le_refl _, fun _ _ _ => rfl⟩, fun y hy => ?_, c0, ⟨c1, f1⟩, hB⟩
      rcases List.mem_append.1 hy with h | h
      · exact hne y h
      · rw [List.mem_singleton.1 h]; exact hx
  case done =>
    rintro xs W ⟨m, hm, rfl, hs, he⟩ ⟨hne, c0, ⟨c1, f1⟩, hB⟩ hK
    exfalso
    have hz : opsTo tks tks.length = some [] := by simp [rightL] at hr; exact hr.2
    obtain ⟨n, hn⟩ : ∃ n, tks.length = n + 1 := ⟨tks.length - 1, by omega⟩
    rcases he with he | he
    · subst he
      rw [hn] at hne hz
      have := hne (n, ((opsTo tks (n + 1)).getD []).length) (by simp only [yields, List.mem_map, List.mem_range]; exact ⟨n, by omega, rfl⟩)
      rw [hz] at this
      exact this rfl
    · have hnn : ∀ j, opsTo tks (m + 1 + j) = none := by
        intro j
        induction j with
        | zero => exact he
        | succ j ih => rw [← Nat.add_assoc, opsTo, ih]
      rcases Nat.lt_or_ge m tks.length with h | h
      · have := hnn (tks.length - (m + 1))
        rw [show m + 1 + (tks.length - (m + 1)) = tks.length by omega, hz] at this
        cases this
      · have e : m = tks.length := by omega
        subst e
        rw [hn] at hne hz
        have := hne (n, ((opsTo tks (n + 1)).getD []).length) (by simp only [yields, List.mem_map, List.mem_range]; exact ⟨n, by omega, rfl⟩)
        rw [hz] at this
        exact this rfl
  case stop =>
    rintro pre W ⟨m, hm, rfl, hs⟩ ⟨pre0, x, h1, h2, h3, c1, hB⟩ hK
    rw [yields_succ] at h1
    obtain ⟨e1, e2⟩ := List.append_inj' h1 rfl
    simp only [List.cons.injEq, and_true] at e2
    subst e1 e2
    rw [wholeL_of tks hr h0 hm hs h3 h2] at c1
    simp only [World.size_alloc] at hK ⊢
    gi_wp2
    refine ⟨by simp, .inl ⟨_, _, rfl, run_takeDeferred hK, ?_⟩⟩
    have c2 := cell_grown (grown_put (A := W) (l := w3.heap.size + 1) (.deferred none)) c1 (by intro e; injection e with e; omega)
    exact ⟨_, results_cell Tryd.results32 rfl (load_bool _ _ _ c2), rfl, hB.trans (belowK_b (w := w) (Nat.le_refl _) W (w3.heap.size + 1) _ _ (by omega) hK rfl rfl)⟩
theorem whole_full (tv : Value) (tks : List Tk) (w : World) (hT : TkS w tv tks) (hsm : ∀ tk ∈ tks, tk.small) :
    Calls Tryd.prog 32 #[tv] w fun e w' => e = .returned (.bool (wholeL tks)) ∧ Below w.heap.size w w' := by
  by_cases h0 : tks = []
  · subst h0
    obtain ⟨ptr, cap, rfl⟩ := hT.shape
    have hr : wholeL [] = false := by simp [wholeL]
    rw [hr]
    go_enter Tryd.func32, Tryd.ntmps32
    go_wp2
    have st := start2 w (.slice ptr 0 cap) (.bool false) 25 4
    exact bodyPost_ret (v := .bool false) (results_cell Tryd.results32 rfl (load_bool _ _ _ (by simp))) rfl ⟨rfl, belowA (below1 w _) _⟩
  cases hr : rightL tks
  · have hw : wholeL tks = false := by simp [wholeL, hr]
    rw [hw]
    obtain ⟨ptr, cap, rfl⟩ := hT.shape
    have hl0 : 0 < tks.length := List.length_pos_iff.2 h0
    have be : ((tks.length : Int) == 0) = false := by rw [beq_eq_false_iff_ne]; omega
    have hb2 : Below w.heap.size w ((w.alloc (.cells #[.slice ptr tks.length cap] 25)).alloc (.cells #[.bool false] 4)) := belowA (below1 w _) _
    have hR := right_full _ tks _ (hT.below hb2) hsm
    rw [hr] at hR
    have st := start2 w (.slice ptr tks.length cap) (.bool false) 25 4
    go_enter Tryd.func32, Tryd.ntmps32
    go_wp2_with (go_at_call 11; refine hR.mono ?_; rintro e w3 ⟨rfl, hb3⟩; have k1 := bat hb3 (w.heap.size + 1) (by simp only [World.size_alloc]; omega); have c1 := (k1.1 0).trans st.2.1; have f1 := (k1.2 0).trans st.2.2)
    have c2 := World.cell?_setCell_same' w3 ⟨w.heap.size + 1, 0, none⟩ (.bool false) (by rw [c1]; rfl)
    exact bodyPost_ret (v := .bool false) (results_cell Tryd.results32 rfl (load_bool _ _ _ c2)) rfl ⟨rfl, (belowT hb2 (hb3.mono (by simp))).setCell (p := ⟨w.heap.size + 1, 0, none⟩) (by show w.heap.size ≤ w.heap.size + 1; omega) _⟩
  · exact whole_walk tv tks w hT hsm h0 hr
end Go.Proofs.YtjpdadibeocpfaaDoor
