/-
  Whether tokens are one whole element (write.Whole). Condition: no text beyond the reach.
-/
import Derived.Test.YtjpdadibeocpfaaDoorWrWhole
namespace Go.Proofs.YtjpdadibeocpfaaDoor
set_option linter.unusedVariables false
set_option linter.unusedSimpArgs false
open Go.RowKit Go.MapKept Go.Shelf
attribute [local go_sem] Oper.semAt_some
/-- P4.1 -/
def wholeL (l : List Tk) : Bool := rightL l && !l.isEmpty && decide (∀ j, j < l.length - 1 → opsTo l (j + 1) ≠ some [])
def WholeI (w : World) (tv : Value) (pre : List (Nat × Nat)) (W : World) : Prop :=
  (∀ x ∈ pre, x.2 ≠ 0) ∧ W.cell? ⟨w.heap.size, 0, none⟩ = some tv ∧ (W.cell? ⟨w.heap.size + 1, 0, none⟩ = some (.bool false) ∧ W.frozen? ⟨w.heap.size + 1, 0, none⟩ = false) ∧ Below w.heap.size w W
def WholeR (w : World) (n : Nat) (pre : List (Nat × Nat)) (W : World) : Prop :=
  ∃ pre0 x, pre = pre0 ++ [x] ∧ (∀ y ∈ pre0, y.2 ≠ 0) ∧ x.2 = 0 ∧ W.cell? ⟨w.heap.size + 1, 0, none⟩ = some (.bool ((x.1 : Int) == (n : Int) - 1)) ∧ Below w.heap.size w W
theorem wholeI_stands (w : World) (tv : Value) (B : Nat) (hB : w.heap.size + 2 ≤ B) : Stands B (WholeI w tv) := by
  rintro s A C row ⟨h, c0, ⟨c1, f1⟩, hb⟩ hg hr
  have n0 : some w.heap.size ≠ row := fun e => by have := hr _ e.symm; omega
  have n1 : some (w.heap.size + 1) ≠ row := fun e => by have := hr _ e.symm; omega
  exact ⟨h, cell_grown hg c0 n0, ⟨cell_grown hg c1 n1, frozen_grown hg c1 f1 n1⟩, hb.grown hg hb.size (fun k hk => by have := hr k hk; omega)⟩
theorem wholeR_stands (w : World) (n B : Nat) (hB : w.heap.size + 2 ≤ B) : Stands B (WholeR w n) := by
  rintro s A C row ⟨pre0, x, h1, h2, h3, c1, hb⟩ hg hr
  have n1 : some (w.heap.size + 1) ≠ row := fun e => by have := hr _ e.symm; omega
  exact ⟨pre0, x, h1, h2, h3, cell_grown hg c1 n1, hb.grown hg hb.size (fun k hk => by have := hr k hk; omega)⟩
theorem wholeL_of (tks : List Tk) (hr : rightL tks = true) (h0 : tks ≠ []) {m : Nat} (hm : m < tks.length) (hs : (opsTo tks (m + 1)).isSome = true) (hz : ((opsTo tks (m + 1)).getD []).length = 0) (hn : ∀ x ∈ yields tks m, x.2 ≠ 0) : ((m : Int) == (tks.length : Int) - 1) = wholeL tks := by
  obtain ⟨op, hop⟩ := Option.isSome_iff_exists.1 hs
  rw [hop] at hz
  obtain rfl : op = [] := List.length_eq_zero_iff.1 hz
  have hne : tks.isEmpty = false := by cases tks with | nil => exact absurd rfl h0 | cons a r => rfl
  simp only [wholeL, hr, hne, Bool.true_and, Bool.not_false]
  rw [Bool.eq_iff_iff, beq_iff_eq, decide_eq_true_eq]
  constructor
  · intro e j hj hc
    have := hn (j, ((opsTo tks (j + 1)).getD []).length) (by simp only [yields, List.mem_map, List.mem_range]; exact ⟨j, by omega, rfl⟩)
    rw [hc] at this
    exact this rfl
  · intro h
    by_cases e : m = tks.length - 1
    · omega
    · exact absurd hop (h m (by omega))
theorem load_bool (ad : Addr) (b : Bool) (w : World) (h : w.cell? ad = some (.bool b)) : (loadVar 4 ad).run Tryd.prog w = .ok (.bool b) w := by
  simp [loadVar, Tryd.isAgg4, h, go_sem]
set_option maxRecDepth 100000 in
set_option maxHeartbeats 2000000 in
theorem whole_walk (tv : Value) (tks : List Tk) (w : World) (hT : TkS w tv tks) (hsm : ∀ tk ∈ tks, tk.small) (h0 : tks ≠ []) (hr : rightL tks = true) :
    Calls Tryd.prog 32 #[tv] w fun e w' => e = .returned (.bool (wholeL tks)) ∧ Below w.heap.size w w' := by
  have h64 : tks.length ≤ 64 := by simp [rightL] at hr; exact hr.1
  have hl0 : 0 < tks.length := List.length_pos_iff.2 h0
  obtain ⟨ptr, cap, rfl⟩ := hT.shape
  have be : ((tks.length : Int) == 0) = false := by rw [beq_eq_false_iff_ne]; omega
  have hb2 : Below w.heap.size w ((w.alloc (.cells #[.slice ptr tks.length cap] 25)).alloc (.cells #[.bool false] 4)) := belowA (below1 w _) _
  have hR := right_full _ tks _ (hT.below hb2) hsm
  rw [hr] at hR
  refine (callsIn_wide (n := 3)).1 ?_
  refine callsIn_of_wp_marks Tryd.func32 rfl trivial ?_ rfl
  simp only [Tryd.ntmps32, List.size_toArray, List.length_cons, List.length_nil, Nat.reduceAdd, Nat.reduceSub, Array.replicate_succ, Array.replicate_zero, List.push_toArray, List.append_toArray, List.nil_append, List.cons_append]
  gi_wp2_with (first
    | (refine ⟨trivial, ?_⟩; gi_at_call 11; refine (callsIn_wide.2 hR).mono ?_; rintro e w3 ⟨rfl, hb3⟩; have d0 := ((bat hb3 w.heap.size (by simp; omega)).1 0).trans (start2 w _ _ _ _).1)
    | (refine ⟨trivial, ?_⟩; gi_at_call 24; refine (callsIn_wide.2 (walkF _ ⟨_, _, _, rfl⟩ _)).mono ?_; rintro e w1 ⟨rfl, rfl⟩))
  have hbl : Below w.heap.size w (w3.alloc (.cells #[.slice ptr tks.length cap] 25)) := belowA (belowT hb2 (hb3.mono (by simp))) _
  have hs3 := hb3.size
  simp only [World.size_alloc] at hs3
  have hG := right_gives w _ tks hT hsm (by omega) _ w3.heap.size hbl (by simp only [World.size_alloc]; omega) (by simp)
  have st := start2 w (.slice ptr tks.length cap) (.bool false) 25 4
  have k1 := bat hb3 (w.heap.size + 1) (by simp only [World.size_alloc]; omega)
  refine range_own rfl (by decide) (gf := 41) (lb := #[.pointer (some ⟨w3.heap.size, 0, none⟩)]) rfl trivial (enters_of Tryd.func41 (by kernel_rfl) rfl) hG (fun _ => rfl) (fun h k => h.trans k)
    (fun A o h => keepPut A o h (by simp only [World.size_alloc]; omega) (by simp only [World.size_alloc]; omega) (by simp only [World.size_alloc]; omega)) (WholeI w (.slice ptr tks.length cap)) (WholeR w tks.length) (wholeI_stands w _ _ (by simp only [World.size_alloc]; omega)) (wholeR_stands w _ _ (by simp only [World.size_alloc]; omega))
    ⟨fun _ h => (by cases h), (World.cell?_alloc_lt _ _ ⟨w.heap.size, 0, none⟩ (by show w.heap.size < w3.heap.size; omega)).trans d0, ⟨(World.cell?_alloc_lt _ _ ⟨w.heap.size + 1, 0, none⟩ (by show w.heap.size + 1 < w3.heap.size; omega)).trans ((k1.1 0).trans st.2.1), (World.frozen?_alloc_old _ _ ⟨w.heap.size + 1, 0, none⟩ (by show w.heap.size + 1 ≠ w3.heap.size; omega)).trans ((k1.2 0).trans st.2.2)⟩, hbl⟩
    (fun x => { tmps := #[.slice ptr tks.length cap, .pointer (some ⟨w.heap.size, 0, none⟩), .pointer (some ⟨w.heap.size + 1, 0, none⟩), .int .i64 (x.1 : Int), .int .i64 (x.2 : Int), .slice ptr tks.length cap, .int .i64 (tks.length : Int), .bool false, .bool false, .slice ptr tks.length cap, .bool true, .bool false, .bool false, .slice ptr tks.length cap, .func (.func 41) #[] #[.pointer (some ⟨w3.heap.size, 0, none⟩)], .int .i64 (x.1 : Int), .int .i64 (x.2 : Int), undef, undef, undef, undef, undef, undef, undef], defers := [] }) ?assign ?body ?done ?stop
  case assign =>
    intro l x W K hK
    gi_wp2
    exact hK
  case body =>
    rintro l pre x W ⟨hne, c0, ⟨c1, f1⟩, hB⟩
    by_cases hx : x.2 = 0
    · have bx : ((x.2 : Int) == 0) = true := by rw [hx]; rfl
      gi_wp2
      exact ⟨(KeepsOthers.setCell _ _ _).from _, pre, x, rfl, hne, hx, World.cell?_setCell_same' _ _ _ (by rw [c1]; rfl), hB.setCell (p := ⟨w.heap.size + 1, 0, none⟩) (by show w.heap.size ≤ w.heap.size + 1; omega) _⟩
    · have bx : ((x.2 : Int) == 0) = false := by rw [beq_eq_false_iff_ne]; omega
      gi_wp2
      refine ⟨KeepsFrom.refl _ _, ⟨rfl, rfl, rfl, Nat.le_refl _, fun _ _ _ => rfl⟩, fun y hy => ?_, c0, ⟨c1, f1⟩, hB⟩
      rcases List.mem_append.1 hy with h | h
      · exact hne y h
      · rw [List.mem_singleton.1 h]; exact hx
  case done =>
    rintro xs W ⟨m, hm, rfl, hs, he⟩ ⟨hne, c0, ⟨c1, f1⟩, hB⟩ hK
    exfalso
    have hz : opsTo tks tks.length = some [] := by simp [rightL] at hr; exact hr.2
    obtain ⟨n, hn⟩ : ∃ n, tks.length = n + 1 := ⟨tks.length - 1, by omega⟩
    rcases he with he | he
    · subst he
      rw [hn] at hne hz
      have := hne (n, ((opsTo tks (n + 1)).getD []).length) (by simp only [yields, List.mem_map, List.mem_range]; exact ⟨n, by omega, rfl⟩)
      rw [hz] at this
      exact this rfl
    · have hnn : ∀ j, opsTo tks (m + 1 + j) = none := by
        intro j
        induction j with
        | zero => exact he
        | succ j ih => rw [← Nat.add_assoc, opsTo, ih]
      rcases Nat.lt_or_ge m tks.length with h | h
      · have := hnn (tks.length - (m + 1))
        rw [show m + 1 + (tks.length - (m + 1)) = tks.length by omega, hz] at this
        cases this
      · have e : m = tks.length := by omega
        subst e
        rw [hn] at hne hz
        have := hne (n, ((opsTo tks (n + 1)).getD []).length) (by simp only [yields, List.mem_map, List.mem_range]; exact ⟨n, by omega, rfl⟩)
        rw [hz] at this
        exact this rfl
  case stop =>
    rintro pre W ⟨m, hm, rfl, hs⟩ ⟨pre0, x, h1, h2, h3, c1, hB⟩ hK
    rw [yields_succ] at h1
    obtain ⟨e1, e2⟩ := List.append_inj' h1 rfl
    simp only [List.cons.injEq, and_true] at e2
    subst e1 e2
    rw [wholeL_of tks hr h0 hm hs h3 h2] at c1
    simp only [World.size_alloc] at hK ⊢
    gi_wp2
    refine ⟨by simp, .inl ⟨_, _, rfl, run_takeDeferred hK, ?_⟩⟩
    have c2 := cell_grown (grown_put (A := W) (l := w3.heap.size + 1) (.deferred none)) c1 (by intro e; injection e with e; omega)
    exact ⟨_, results_cell Tryd.results32 rfl (load_bool _ _ _ c2), rfl, hB.trans (belowK_b (w := w) (Nat.le_refl _) W (w3.heap.size + 1) _ _ (by omega) hK rfl rfl)⟩
theorem whole_full (tv : Value) (tks : List Tk) (w : World) (hT : TkS w tv tks) (hsm : ∀ tk ∈ tks, tk.small) :
    Calls Tryd.prog 32 #[tv] w fun e w' => e = .returned (.bool (wholeL tks)) ∧ Below w.heap.size w w' := by
  by_cases h0 : tks = []
  · subst h0
    obtain ⟨ptr, cap, rfl⟩ := hT.shape
    have hr : wholeL [] = false := by simp [wholeL]
    rw [hr]
    go_enter Tryd.func32, Tryd.ntmps32
    go_wp2
    have st := start2 w (.slice ptr 0 cap) (.bool false) 25 4
    exact bodyPost_ret (v := .bool false) (results_cell Tryd.results32 rfl (load_bool _ _ _ (by simp))) rfl ⟨rfl, belowA (below1 w _) _⟩
  cases hr : rightL tks
  · have hw : wholeL tks = false := by simp [wholeL, hr]
    rw [hw]
    obtain ⟨ptr, cap, rfl⟩ := hT.shape
    have hl0 : 0 < tks.length := List.length_pos_iff.2 h0
    have be : ((tks.length : Int) == 0) = false := by rw [beq_eq_false_iff_ne]; omega
    have hb2 : Below w.heap.size w ((w.alloc (.cells #[.slice ptr tks.length cap] 25)).alloc (.cells #[.bool false] 4)) := belowA (below1 w _) _
    have hR := right_full _ tks _ (hT.below hb2) hsm
    rw [hr] at hR
    have st := start2 w (.slice ptr tks.length cap) (.bool false) 25 4
    go_enter Tryd.func32, Tryd.ntmps32
    go_wp2_with (go_at_call 11; refine hR.mono ?_; rintro e w3 ⟨rfl, hb3⟩; have k1 := bat hb3 (w.heap.size + 1) (by simp only [World.size_alloc]; omega); have c1 := (k1.1 0).trans st.2.1; have f1 := (k1.2 0).trans st.2.2)
    have c2 := World.cell?_setCell_same' w3 ⟨w.heap.size + 1, 0, none⟩ (.bool false) (by rw [c1]; rfl)
    exact bodyPost_ret (v := .bool false) (results_cell Tryd.results32 rfl (load_bool _ _ _ c2)) rfl ⟨rfl, (belowT hb2 (hb3.mono (by simp))).setCell (p := ⟨w.heap.size + 1, 0, none⟩) (by show w.heap.size ≤ w.heap.size + 1; omega) _⟩
  · exact whole_walk tv tks w hT hsm h0 hr
end Go.Proofs.YtjpdadibeocpfaaDoor
