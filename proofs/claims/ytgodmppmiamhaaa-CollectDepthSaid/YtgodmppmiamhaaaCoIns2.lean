/-
  One edge laid between others (slices.Insert), by the program: its four roads. Condition: at most 1000 edges.
-/
import Derived.Test.YtgodmppmiamhaaaCoIns
namespace Go.Proofs.Ytgodmppmiamhaaa
set_option linter.unusedVariables false
set_option linter.unusedSimpArgs false
open Go.RowKit Go.MapKept Go.Shelf
def vC (c p : Txt) : List Value := [.string ⟨c.toArray⟩, .string ⟨p.toArray⟩]
theorem vC_one (c p : Txt) : ∀ v ∈ vC c p, v.oneCell' = true := by intro v hv; simp [vC] at hv; rcases hv with rfl | rfl <;> rfl
theorem vC_cells {w : World} {vb : Nat} {c p : Txt} (hv : w.heap[vb]? = some (.cells #[.string ⟨c.toArray⟩, .string ⟨p.toArray⟩] 58)) : ∀ j u, (vC c p)[j]? = some u → w.cell? ⟨vb, 0 + j, none⟩ = some u := by
  intro j u hu
  rw [Nat.zero_add, (obj_cells hv).1 j]
  simpa [vC] using hu
set_option maxHeartbeats 4000000 in
set_option maxRecDepth 100000 in
theorem insShift (g n c i vb : Nat) (cur : Array Value) (E : Ats) (ch pa : Txt) (w : World) (hi : i < n) (hn : E.length = n) (hroom : n + 1 ≤ c) (hc63 : c ≤ maxLen) (hvb : vb ≠ g)
    (hg : w.heap[g]? = some (.cells cur 58)) (hcs : cur.size = c * 2) (htk : cur.toList.take (n * 2) = atCells E) (hv : w.heap[vb]? = some (.cells #[.string ⟨ch.toArray⟩, .string ⟨pa.toArray⟩] 58)) :
    Calls Try.prog 33 #[.slice (some ⟨g, 0, none⟩) n c, .int .i64 i, .slice (some ⟨vb, 0, none⟩) 1 1] w fun e w' =>
      e = .returned (.slice (some ⟨g, 0, none⟩) (n + 1) c) ∧ w' = (w.drew.setCells g ((i + 1) * 2) (atCells (E.drop i))).setCells g (i * 2) (vC ch pa) := by
  have hcg := (obj_cells hg).1
  have hfg := (obj_cells hg).2.1
  have hrow : ∀ j u, (atCells E)[j]? = some u → w.cell? ⟨g, j, none⟩ = some u := fun j u hu => by
    rw [hcg j, ← Array.getElem?_toList]
    rw [← htk, List.getElem?_take] at hu
    split at hu
    · exact hu
    · cases hu
  have hsome : ∀ j, j < c * 2 → (w.cell? ⟨g, j, none⟩).isSome = true := fun j hj => by rw [hcg j, Array.getElem?_eq_getElem (by omega)]; rfl
  have hdl : (atCells (E.drop i)).length = (n - i) * 2 := by rw [atCells_len, List.length_drop, hn]
  have hdr : ∀ j u, (atCells (E.drop i))[j]? = some u → (atCells E)[i * 2 + j]? = some u := fun j u hu => by
    have : atCells E = atCells (E.take i) ++ atCells (E.drop i) := by
      unfold atCells
      rw [← List.flatMap_append, List.take_append_drop]
    rw [this, List.getElem?_append_right (by rw [atCells_len, List.length_take]; omega), atCells_len, List.length_take, show i * 2 + j - min i E.length * 2 = j by omega]
    exact hu
  have mixed : Try.prog.follows Departure.mixedOrders = true := by kernel_rfl
  have hov : ∀ o lb cb, (callFunc 50 #[.slice (some ⟨vb, 0, none⟩) 1 1, .slice (some ⟨g, o, none⟩) lb cb]).run Try.prog w = .ok (.value (.bool false)) w := fun o lb cb => ov_run vb g o lb cb w hvb _ hv rfl cur hg (by omega)
  have hw1 : IntKind.i64.wrap ((i : Int) + 1) = (i : Int) + 1 := by rw [IntKind.wrap_i64]; unfold maxLen at hc63; omega
  have hw2 : IntKind.i64.wrap ((n : Int) + 1) = (n : Int) + 1 := by rw [IntKind.wrap_i64]; unfold maxLen at hc63; omega
  have hz2 : ¬ ((i : Int) = (n : Int)) := by omega
  have hb1 : (0 : Int) ≤ (i : Int) + 1 := by omega
  have hb1n : (0 : Int) ≤ (n : Int) + 1 := by omega
  have hin : i ≤ n := by omega
  have htn : ((i : Int) + 1).toNat = i + 1 := by omega
  have htn2 : ((n : Int) + 1).toNat = n + 1 := by omega
  have hb2 : ¬ (c = i + 1) := by omega
  have hb3 : (i : Int) ≤ (n : Int) + 1 := by omega
  have hb4 : ¬ (c = i) := by omega
  have hb5 : ¬ (c : Int) < (n : Int) + 1 := by omega
  have hb6 : (n : Int) + 1 ≤ (c : Int) := by omega
  have hcp1 : ∀ ty dc sc, (Builtin.copy_ #[23, 23] ty #[.slice (some ⟨g, (i + 1) * 2, none⟩) (n - i) dc, .slice (some ⟨g, i * 2, none⟩) (n + 1 - i) sc]).run Try.prog w.drew = .ok (goInt (Nat.min (n + 1 - i) (n - i))) (w.drew.setCells g ((i + 1) * 2) (atCells (E.drop i))) := fun ty dc sc =>
    run_copy2 w.drew _ _ ty 58 g ((i + 1) * 2) (n - i) dc ⟨g, i * 2, none⟩ (n + 1 - i) sc (atCells (E.drop i)) underE sz2 (by rw [hdl]; simp only [Nat.min_def]; split <;> omega)
      (fun j v hj => by rw [Addr.add_lit]; exact hrow _ v (hdr j v hj))
      (fun j hj => hsome _ (by omega)) (fun j hj => hfg _) (atCells_one _)
  obtain ⟨W1, hW1⟩ : ∃ W1, W1 = w.drew.setCells g ((i + 1) * 2) (atCells (E.drop i)) := ⟨_, rfl⟩
  have hcp2 : ∀ (W : World), (∀ x, W.cell? x = W1.cell? x) → (∀ x, W.frozen? x = W1.frozen? x) → ∀ ty dc, (Builtin.copy_ #[23, 23] ty #[.slice (some ⟨g, i * 2, none⟩) (n + 1 - i) dc, .slice (some ⟨vb, 0, none⟩) 1 1]).run Try.prog W = .ok (goInt (Nat.min 1 (n + 1 - i))) (W.setCells g (i * 2) (vC ch pa)) := fun W hWc hWf ty dc =>
    run_copy2 W _ _ ty 58 g (i * 2) (n + 1 - i) dc ⟨vb, 0, none⟩ 1 1 (vC ch pa) underE sz2 (by simp only [vC, List.length_cons, List.length_nil, Nat.min_def]; split <;> omega)
      (fun j v hj => by
        rw [Addr.add_lit, hWc, hW1, World.cell?_setCells_out g _ _ _ _ (fun h _ => absurd h hvb)]
        exact vC_cells hv j v hj)
      (fun j hj => by
        rw [hWc, hW1]
        simp only [vC, List.length_cons, List.length_nil] at hj
        exact isSome_setCells g (atCells (E.drop i)) ((i + 1) * 2) w.drew (fun t ht => hsome _ (by rw [hdl] at ht; omega)) (i * 2 + j) (hsome _ (by omega)))
      (fun j hj => by rw [hWf, hW1, World.frozen?_setCells]; exact hfg _) (vC_one _ _)
  rw [← hW1] at hcp1 ⊢
  replace hW1 := Lib.hid hW1
  replace hg := Lib.hid hg
  replace hv := Lib.hid hv
  replace hrow := Lib.hid hrow
  replace hsome := Lib.hid hsome
  replace htk := Lib.hid htk
  clear hcg hfg hdr hdl
  go_enter Try.func33, Try.ntmps33
  go_wp2_with (simp only [hov])
  go_region_law_o (refine step_copy_runI rfl _ _ 23 23 rfl _ _ (by simp [Act.eval, Act.put]) (by simp [Act.eval, Act.put]) (hcp1 _ _ _) ?_)
  go_wp2_with (at_builtin; refine wpList_copy_runI _ rfl _ _ 23 23 rfl _ _ rfl rfl (hcp2 _ (fun _ => rfl) (fun _ => rfl) _ _) ?_)
  go_ret
  exact ⟨rfl, rfl⟩
theorem cells_split (E : Ats) (i : Nat) : atCells E = atCells (E.take i) ++ atCells (E.drop i) := by
  unfold atCells
  rw [← List.flatMap_append, List.take_append_drop]
set_option maxHeartbeats 4000000 in
set_option maxRecDepth 100000 in
theorem insGrow (g n i vb : Nat) (cur : Array Value) (E : Ats) (ch pa : Txt) (w : World) (hi : i < n) (hn : E.length = n) (hn1 : n ≤ 1000) (hvb : vb ≠ g)
    (hg : w.heap[g]? = some (.cells cur 58)) (hcs : cur.size = n * 2) (htk : cur.toList.take (n * 2) = atCells E) (hv : w.heap[vb]? = some (.cells #[.string ⟨ch.toArray⟩, .string ⟨pa.toArray⟩] 58)) :
    Calls Try.prog 33 #[.slice (some ⟨g, 0, none⟩) n n, .int .i64 i, .slice (some ⟨vb, 0, none⟩) 1 1] w fun e w' =>
      ∃ (G : Nat) (ROW : Array Value), e = .returned (.slice (some ⟨w.heap.size, 0, none⟩) (n + 1) G) ∧ n + 1 ≤ G ∧ G ≤ maxLen ∧ n * 2 + 2 ≤ ROW.size ∧ ROW.toList.take (i * 2) = atCells (E.take i) ∧
      w' = (((w.alloc (.cells ROW 58)).drew.setCells w.heap.size (i * 2) (vC ch pa)).drew).setCells w.heap.size ((i + 1) * 2) (atCells (E.drop i)) := by
  have hcg := (obj_cells hg).1
  have hrow : ∀ j u, (atCells E)[j]? = some u → w.cell? ⟨g, j, none⟩ = some u := fun j u hu => by
    rw [hcg j, ← Array.getElem?_toList]
    rw [← htk, List.getElem?_take] at hu
    split at hu
    · exact hu
    · cases hu
  have hgw := (obj_cells hg).2.2
  have hvw := (obj_cells hv).2.2
  have hdl : (atCells (E.drop i)).length = (n - i) * 2 := by rw [atCells_len, List.length_drop, hn]
  have htl : (atCells (E.take i)).length = i * 2 := by rw [atCells_len, List.length_take]; omega
  have hdr : ∀ j u, (atCells (E.drop i))[j]? = some u → (atCells E)[i * 2 + j]? = some u := fun j u hu => by
    rw [cells_split E i, List.getElem?_append_right (by rw [htl]; omega), htl, show i * 2 + j - i * 2 = j by omega]
    exact hu
  have htr : ∀ j u, (atCells (E.take i))[j]? = some u → (atCells E)[j]? = some u := fun j u hu => by
    rw [cells_split E i, List.getElem?_append_left (List.getElem?_eq_some_iff.1 hu).1]
    exact hu
  obtain ⟨i0, hi0, hz0, hzs, hzb⟩ := info_parts infoE
  have hold : (Builtin.firstCells i0.size i (.slice (some ⟨g, 0, none⟩) i n)).run Try.prog w.drew = .ok (atCells (E.take i)).toArray w.drew := by
    rw [hzs]
    exact run_firstCells_some w.drew 2 i ⟨g, 0, none⟩ i n (atCells (E.take i)) htl (fun j v hj => by
      rw [Addr.add_lit, Nat.zero_add]
      exact hrow j v (htr j v hj))
  have hkk : (n : Int) + 1 - (i : Int) = ((n + 1 - i : Nat) : Int) := by omega
  have hik : i + (n + 1 - i) = n + 1 := by omega
  have hrz : ∀ ty, (Builtin.append_ #[23, 3] ty #[.slice (some ⟨g, 0, none⟩) i n, .int .i64 ((n : Int) + 1 - (i : Int))]).run Try.prog w =
      .ok (.slice (some ⟨w.heap.size, 0, none⟩) (n + 1) (grownCap w (n + 1) n 58)) (w.drew.alloc (.cells ((atCells (E.take i)).toArray ++ Builtin.zeroCells (Value.agg #[.string ⟨#[]⟩, .string ⟨#[]⟩]).cells (n + 1 - i) ++ Builtin.zeroCells (Value.agg #[.string ⟨#[]⟩, .string ⟨#[]⟩]).cells (grownCap w (n + 1) n 58 - (n + 1))) 58)) := fun ty => by
    have h := Lib.run_append_grow_zeros w 23 3 ty 58 i0 _ .i64 .i64 underE Try.underlying3 hi0 hz0 (some ⟨g, 0, none⟩) i n (atCells (E.take i)) hold (n + 1 - i) (by omega) (by omega) (by omega) (by omega) (by rw [hzb]; omega) (by rw [hzb, hik]; exact growslice_fits (by omega) (by omega))
    rw [hik] at h
    rw [hkk]
    exact h
  obtain ⟨G, hG⟩ : ∃ G, G = grownCap w (n + 1) n 58 := ⟨_, rfl⟩
  rw [← hG] at hrz
  obtain ⟨ROW, hROW⟩ : ∃ ROW : Array Value, ROW = (atCells (E.take i)).toArray ++ Builtin.zeroCells (Value.agg #[.string ⟨#[]⟩, .string ⟨#[]⟩]).cells (n + 1 - i) ++ Builtin.zeroCells (Value.agg #[.string ⟨#[]⟩, .string ⟨#[]⟩]).cells (G - (n + 1)) := ⟨_, rfl⟩
  rw [← hROW] at hrz
  have hRl : n * 2 + 2 ≤ ROW.size := by
    rw [hROW]
    simp [Builtin.zeroCells, Value.cells, htl]
    omega
  have hRt : Hid (ROW.toList.take (i * 2) = atCells (E.take i)) := Lib.hid (by
    rw [hROW]
    simp only [Array.toList_append, List.append_assoc]
    rw [List.take_append_of_le_length (by simp [htl]), List.take_of_length_le (by simp [htl])])
  obtain ⟨W1, hW1⟩ : ∃ W1, W1 = w.drew.alloc (.cells ROW 58) := ⟨_, rfl⟩
  rw [← hW1] at hrz
  have hN : ∀ j, j < n * 2 + 2 → (W1.cell? ⟨w.heap.size, j, none⟩).isSome = true := fun j hj => by
    rw [hW1, World.cell?_alloc_at (w := w.drew) ROW _ w.heap.size j rfl, Array.getElem?_eq_getElem (by omega)]; rfl
  have hNf : ∀ j, W1.frozen? ⟨w.heap.size, j, none⟩ = false := fun j => by rw [hW1]; exact World.frozen?_alloc_at (w := w.drew) ROW _ w.heap.size j rfl
  have hOb : ∀ b j v, b < w.heap.size → w.cell? ⟨b, j, none⟩ = some v → W1.cell? ⟨b, j, none⟩ = some v := fun b j v hb h => by rw [hW1, World.cell?_alloc_past (w := w.drew) _ b j hb]; exact h
  have hcpA : ∀ (W : World), (∀ x, W.cell? x = W1.cell? x) → (∀ x, W.frozen? x = W1.frozen? x) → ∀ ty dc, (Builtin.copy_ #[23, 23] ty #[.slice (some ⟨w.heap.size, i * 2, none⟩) (n + 1 - i) dc, .slice (some ⟨vb, 0, none⟩) 1 1]).run Try.prog W = .ok (goInt (Nat.min 1 (n + 1 - i))) (W.setCells w.heap.size (i * 2) (vC ch pa)) := fun W hWc hWf ty dc =>
    run_copy2 W _ _ ty 58 w.heap.size (i * 2) (n + 1 - i) dc ⟨vb, 0, none⟩ 1 1 (vC ch pa) underE sz2 (by simp only [vC, List.length_cons, List.length_nil, Nat.min_def]; split <;> omega)
      (fun j v hj => by rw [Addr.add_lit, hWc]; exact hOb _ _ v hvw (vC_cells hv j v hj))
      (fun j hj => by rw [hWc]; simp only [vC, List.length_cons, List.length_nil] at hj; exact hN _ (by omega)) (fun j hj => by rw [hWf]; exact hNf _) (vC_one _ _)
  have hGn : n + 1 ≤ G := by rw [hG]; exact grownCap_ge w _ _ _
  have hGm : G ≤ maxLen := by rw [hG]; exact grownCap_le_maxLen w (n + 1) n 58 (by unfold maxLen; omega)
  have hG63 : G ≤ 9223372036854775807 := by unfold maxLen at hGm; omega
  have hGi : ¬ (G = i) := by omega
  have hGim : ¬ (G = i + 1) := by omega
  have hci : ¬ (n = i) := by omega
  have hgN : g ≠ w.heap.size := by omega
  have hcpB : ∀ (W : World), (∀ x, W.cell? x = (W1.setCells w.heap.size (i * 2) (vC ch pa)).cell? x) → (∀ x, W.frozen? x = (W1.setCells w.heap.size (i * 2) (vC ch pa)).frozen? x) → ∀ ty dc sc, (Builtin.copy_ #[23, 23] ty #[.slice (some ⟨w.heap.size, (i + 1) * 2, none⟩) (n - i) dc, .slice (some ⟨g, i * 2, none⟩) (n - i) sc]).run Try.prog W = .ok (goInt (Nat.min (n - i) (n - i))) (W.setCells w.heap.size ((i + 1) * 2) (atCells (E.drop i))) := fun W hWc hWf ty dc sc =>
    run_copy2 W _ _ ty 58 w.heap.size ((i + 1) * 2) (n - i) dc ⟨g, i * 2, none⟩ (n - i) sc (atCells (E.drop i)) underE sz2 (by rw [hdl]; simp only [Nat.min_def]; split <;> omega)
      (fun j v hj => by
        rw [Addr.add_lit, hWc, World.cell?_setCells_out _ _ _ _ _ (fun h _ => absurd h hgN)]
        exact hOb _ _ v hgw (hrow _ v (hdr j v hj)))
      (fun j hj => by rw [hWc]; exact isSome_setCells w.heap.size (vC ch pa) (i * 2) W1 (fun t ht => hN _ (by simp only [vC, List.length_cons, List.length_nil] at ht; omega)) _ (hN _ (by rw [hdl] at hj; omega)))
      (fun j hj => by rw [hWf, World.frozen?_setCells]; exact hNf _) (atCells_one _)
  have mixed : Try.prog.follows Departure.mixedOrders = true := by kernel_rfl
  subst hW1
  have hE1 : ∀ x, ((w.alloc (.cells ROW 58)).drew).cell? x = (w.drew.alloc (.cells ROW 58)).cell? x := fun x => rfl
  have hE2 : ∀ x, ((w.alloc (.cells ROW 58)).drew).frozen? x = (w.drew.alloc (.cells ROW 58)).frozen? x := fun x => rfl
  have hF1 : ∀ x, (((w.alloc (.cells ROW 58)).drew.setCells w.heap.size (i * 2) (vC ch pa)).drew).cell? x = ((w.drew.alloc (.cells ROW 58)).setCells w.heap.size (i * 2) (vC ch pa)).cell? x := fun x => rfl
  have hF2 : ∀ x, (((w.alloc (.cells ROW 58)).drew.setCells w.heap.size (i * 2) (vC ch pa)).drew).frozen? x = ((w.drew.alloc (.cells ROW 58)).setCells w.heap.size (i * 2) (vC ch pa)).frozen? x := fun x => rfl
  have hw1 : IntKind.i64.wrap ((i : Int) + 1) = (i : Int) + 1 := by rw [IntKind.wrap_i64]; omega
  have hw2 : IntKind.i64.wrap ((n : Int) + 1) = (n : Int) + 1 := by rw [IntKind.wrap_i64]; omega
  have hw3 : IntKind.i64.wrap ((n : Int) + 1 - (i : Int)) = (n : Int) + 1 - (i : Int) := by rw [IntKind.wrap_i64]; omega
  have hz2 : ¬ ((i : Int) = (n : Int)) := by omega
  have hz3 : (n : Int) < (n : Int) + 1 := by omega
  have hb1 : (0 : Int) ≤ (i : Int) + 1 := by omega
  have hin : i ≤ n := by omega
  have htn : ((i : Int) + 1).toNat = i + 1 := by omega
  have hb3 : (i : Int) ≤ (n : Int) := by omega
  clear hkk hik hold hROW hG
  replace hg := Lib.hid hg
  replace hv := Lib.hid hv
  replace hrow := Lib.hid hrow
  replace htk := Lib.hid htk
  replace hcs := Lib.hid hcs
  clear hcg hdr hdl htl htr
  go_enter Try.func33, Try.ntmps33
  go_wp2_with (first
    | (at_builtin; refine Lib.wpList_append_run _ rfl _ _ _ _ rfl _ _ rfl rfl _ _ (hrz _) ?_)
    | (at_builtin; refine wpList_copy_runI _ rfl _ _ 23 23 rfl _ _ rfl rfl (hcpA _ hE1 hE2 _ _) ?_))
  go_region_law_o (refine step_copy_runI rfl _ _ 23 23 rfl (.slice (some ⟨w.heap.size, (i + 1) * 2, none⟩) (n - i) (G - (i + 1))) (.slice (some ⟨g, i * 2, none⟩) (n - i) (n - i)) (by simp [Act.eval, Act.put]) (by simp [Act.eval, Act.put]) (hcpB _ hF1 hF2 3 (G - (i + 1)) (n - i)) ?_)
  go_wp2
  go_ret
  exact ⟨G, ROW, rfl, hGn, hGm, hRl, hRt.out, rfl⟩
end Go.Proofs.Ytgodmppmiamhaaa
