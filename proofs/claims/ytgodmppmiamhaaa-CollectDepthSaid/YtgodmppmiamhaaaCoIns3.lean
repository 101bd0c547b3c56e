/-
  One edge laid between others, all roads; one taken out (slices.Insert, slices.Delete), by the program. Condition: at most 1000 edges.
-/
import Derived.Test.YtgodmppmiamhaaaCoIns2
namespace Go.Proofs.Ytgodmppmiamhaaa
set_option linter.unusedVariables false
set_option linter.unusedSimpArgs false
open Go.RowKit Go.MapKept Go.Shelf
set_option maxHeartbeats 1000000 in
theorem insEnd (sv : Value) (base vb : Nat) (E : Ats) (ch pa : Txt) (w : World) (hn : E.length ≤ 1000) (hO : w.ownsRow base 58 2 sv E.length (atCells E)) (hbase : base ≤ w.heap.size)
    (hv : w.heap[vb]? = some (.cells #[.string ⟨ch.toArray⟩, .string ⟨pa.toArray⟩] 58)) :
    Calls Try.prog 33 #[sv, .int .i64 E.length, .slice (some ⟨vb, 0, none⟩) 1 1] w fun e w' =>
      ∃ sv', e = .returned sv' ∧ AtS w' sv' (E ++ [(ch, pa)]) ∧ Below base w w' := by
  obtain ⟨i0, hi, hz0, hz1, hz2⟩ := info_parts infoE
  have hcl := vC_cells hv
  have hone := vC_one ch pa
  have hlt : ∀ k, sv.ownBlock = some k → base ≤ k := fun k hk => (hO.lt k hk).1
  have hbl : Below base w w := Below.refl _ _
  obtain ⟨a, c, rfl⟩ := owns_shp hO
  obtain ⟨N, hN⟩ : ∃ N, E.length = N := ⟨_, rfl⟩
  have hfin : ∀ (v' : Value) (w2 : World), w2.ownsRow base 58 2 v' (N + 1) (atCells E ++ vC ch pa) → AtS w2 v' (E ++ [(ch, pa)]) := fun v' w2 h => owns_edge (base := base) (by
    rw [List.length_append, hN]
    have e : atCells (E ++ [(ch, pa)]) = atCells E ++ vC ch pa := by simp [atCells, vC]
    rw [e]; exact h)
  have hfl : ∀ (v' : Value) (w2 : World), w2.ownsRow base 58 2 v' (N + 1) (atCells E ++ vC ch pa) → ∃ a c, v' = .slice a (N + 1) c := fun v' w2 h => owns_shp h
  rw [hN] at hO hn hlt ⊢
  replace hv := Lib.hid hv
  rcases hO.2 with ⟨h1, h0⟩ | ⟨g, cap, cur, h1, hb, hg, hc1, hc2, hcz, -⟩
  · obtain rfl : N = 0 := h0
    injection h1 with e1 e2 e3
    subst e1 e3
    replace hN := Lib.hid hN
    go_enter Try.func33, Try.ntmps33
    go_wp2_with (at_builtin; refine wpList_append_own _ rfl _ _ 23 rfl base 58 i0 _ 2 32 underE hi hz0 hz1 hz2 rfl (by decide) _ _ _ rfl hO ⟨vb, 0, none⟩ 1 1 (vC ch pa) rfl rfl (fun j u h => by rw [Addr.add_lit]; exact hcl j u h) hone (by unfold maxLen; omega) (by omega) hbase ?_
                 intro v' w2 hO2 hg2 _
                 obtain ⟨a', c', rfl⟩ := hfl _ _ hO2
                 replace hO2 := Lib.hid hO2)
    go_ret
    exact ⟨_, rfl, hfin _ _ hO2.out, hbl.grown hg2 hbase (fun k hk => hlt k hk)⟩
  · injection h1 with e1 e2 e3
    subst e1 e3
    replace hN := Lib.hid hN
    replace hg := Lib.hid hg
    replace hcz := Lib.hid hcz
    have hNN : (N : Int) ≤ (N : Int) := Int.le_refl _
    by_cases hcn : c = N
    · subst hcn
      go_enter Try.func33, Try.ntmps33
      go_wp2_with (at_builtin; refine wpList_append_own _ rfl _ _ 23 rfl base 58 i0 _ 2 32 underE hi hz0 hz1 hz2 rfl (by decide) _ _ _ rfl hO ⟨vb, 0, none⟩ 1 1 (vC ch pa) rfl rfl (fun j u h => by rw [Addr.add_lit]; exact hcl j u h) hone (by unfold maxLen; omega) (by omega) hbase ?_
                   intro v' w2 hO2 hg2 _
                   obtain ⟨a', c', rfl⟩ := hfl _ _ hO2
                   replace hO2 := Lib.hid hO2)
      go_ret
      exact ⟨_, rfl, hfin _ _ hO2.out, hbl.grown hg2 hbase (fun k hk => hlt k hk)⟩
    · go_enter Try.func33, Try.ntmps33
      go_wp2_with (at_builtin; refine wpList_append_own _ rfl _ _ 23 rfl base 58 i0 _ 2 32 underE hi hz0 hz1 hz2 rfl (by decide) _ _ _ rfl hO ⟨vb, 0, none⟩ 1 1 (vC ch pa) rfl rfl (fun j u h => by rw [Addr.add_lit]; exact hcl j u h) hone (by unfold maxLen; omega) (by omega) hbase ?_
                   intro v' w2 hO2 hg2 _
                   obtain ⟨a', c', rfl⟩ := hfl _ _ hO2
                   replace hO2 := Lib.hid hO2)
      go_ret
      exact ⟨_, rfl, hfin _ _ hO2.out, hbl.grown hg2 hbase (fun k hk => hlt k hk)⟩
theorem belowSet {B g : Nat} : ∀ (vs : List Value) (o : Nat) {w0 w : World}, Below B w0 w → B ≤ g → Below B w0 (w.setCells g o vs)
  | [], _, _, _, h, _ => h
  | v :: r, o, w0, w, h, hB => by
    rw [World.setCells]
    exact belowSet r (o + 1) (h.setCell (p := ⟨g, o, none⟩) hB v) hB
theorem size_setCells (b : Nat) : ∀ (vs : List Value) (o : Nat) (w : World), (w.setCells b o vs).heap.size = w.heap.size
  | [], _, _ => rfl
  | v :: r, o, w => by
    rw [World.setCells, size_setCells b r]
    show (w.heap.modify b _).size = _
    rw [Array.size_modify]
theorem setC (b : Nat) (vs : List Value) (o : Nat) (w : World) (h : ∀ j, j < vs.length → (w.cell? ⟨b, o + j, none⟩).isSome = true) (j : Nat) :
    (w.setCells b o vs).cell? ⟨b, j, none⟩ = if o ≤ j ∧ j < o + vs.length then vs[j - o]? else w.cell? ⟨b, j, none⟩ := by
  by_cases hin : o ≤ j ∧ j < o + vs.length
  · rw [if_pos hin]
    have := World.cell?_setCells_in b vs o w h (j - o) (by omega)
    rw [show o + (j - o) = j by omega] at this
    rw [this, List.getElem?_eq_getElem (by omega)]
  · rw [if_neg hin]
    exact World.cell?_setCells_out b vs o w ⟨b, j, none⟩ (fun _ _ => by show j < o ∨ o + vs.length ≤ j; omega)
theorem at_of_cells {w : World} {g cap : Nat} {E : Ats} (h : ∀ j u, (atCells E)[j]? = some u → w.cell? ⟨g, j, none⟩ = some u) (h1 : E.length ≤ cap) (h2 : cap ≤ maxLen) (hg : g < w.heap.size) : AtS w (.slice (some ⟨g, 0, none⟩) E.length cap) E :=
  ⟨_, cap, rfl, h1, h2, fun _ => ⟨g, 0, rfl, hg, fun i hi => ⟨by rw [Nat.zero_add]; exact h _ _ (atCells_get E i hi).1, by rw [Nat.zero_add]; exact h _ _ (atCells_get E i hi).2⟩⟩⟩
theorem cells_ins (E : Ats) (i : Nat) (ch pa : Txt) : atCells (E.take i ++ (ch, pa) :: E.drop i) = atCells (E.take i) ++ (vC ch pa ++ atCells (E.drop i)) := by
  simp [atCells, vC]
theorem three (A V B : List Value) (hV : V.length = 2) (j : Nat) (u : Value) (h : (A ++ (V ++ B))[j]? = some u) :
    (j < A.length ∧ A[j]? = some u) ∨ (A.length ≤ j ∧ j < A.length + 2 ∧ V[j - A.length]? = some u) ∨ (A.length + 2 ≤ j ∧ j < A.length + 2 + B.length ∧ B[j - (A.length + 2)]? = some u) := by
  rcases Nat.lt_or_ge j A.length with h1 | h1
  · exact .inl ⟨h1, by rwa [List.getElem?_append_left h1] at h⟩
  · rw [List.getElem?_append_right h1] at h
    rcases Nat.lt_or_ge (j - A.length) V.length with h2 | h2
    · exact .inr (.inl ⟨h1, by omega, by rwa [List.getElem?_append_left h2] at h⟩)
    · rw [List.getElem?_append_right h2, hV, show j - A.length - 2 = j - (A.length + 2) by omega] at h
      have := (List.getElem?_eq_some_iff.1 h).1
      exact .inr (.inr ⟨by omega, by omega, h⟩)
set_option maxHeartbeats 1000000 in
theorem insert_any (sv : Value) (base vb i : Nat) (E : Ats) (ch pa : Txt) (w : World) (hn : E.length ≤ 1000) (hi : i ≤ E.length) (hO : w.ownsRow base 58 2 sv E.length (atCells E)) (hbase : base ≤ w.heap.size) (hvb : ∀ k, sv.ownBlock = some k → k ≠ vb)
    (hv : w.heap[vb]? = some (.cells #[.string ⟨ch.toArray⟩, .string ⟨pa.toArray⟩] 58)) :
    Calls Try.prog 33 #[sv, .int .i64 i, .slice (some ⟨vb, 0, none⟩) 1 1] w fun e w' =>
      ∃ sv', e = .returned sv' ∧ AtS w' sv' (E.take i ++ (ch, pa) :: E.drop i) ∧ Below base w w' := by
  by_cases hin : i = E.length
  · subst hin
    rw [List.take_length, List.drop_length]
    exact insEnd sv base vb E ch pa w hn hO hbase hv
  · have hlt : i < E.length := by omega
    have htl : (atCells (E.take i)).length = i * 2 := by rw [atCells_len, List.length_take]; omega
    have hdl : (atCells (E.drop i)).length = (E.length - i) * 2 := by rw [atCells_len, List.length_drop]
    have hvl : (vC ch pa).length = 2 := rfl
    have hEl : (E.take i ++ (ch, pa) :: E.drop i).length = E.length + 1 := by simp; omega
    rcases hO.2 with ⟨h1, h0⟩ | ⟨g, cap, cur, rfl, hb, hg, hc1, hc2, hcz, htk⟩
    · omega
    · have hgv : vb ≠ g := fun e => hvb g rfl e.symm
      obtain ⟨hcg, hfg, hgw⟩ := obj_cells hg
      by_cases hroom : E.length + 1 ≤ cap
      · refine (insShift g E.length cap i vb cur E ch pa w hlt rfl hroom hc2 hgv hg hcz htk hv).mono ?_
        rintro e w' ⟨rfl, rfl⟩
        refine ⟨_, rfl, ?_, belowSet _ _ (belowSet _ _ (Below.refl _ _).drew hb) hb⟩
        have hs1 : ∀ j, j < cap * 2 → (w.drew.cell? ⟨g, j, none⟩).isSome = true := fun j hj => by show (w.cell? _).isSome = true; rw [hcg j, Array.getElem?_eq_getElem (by omega)]; rfl
        have c1 := setC g (atCells (E.drop i)) ((i + 1) * 2) w.drew (fun j hj => hs1 _ (by omega))
        have c2 := setC g (vC ch pa) (i * 2) (w.drew.setCells g ((i + 1) * 2) (atCells (E.drop i))) (fun j hj => by
          rw [c1]
          split
          · omega
          · exact hs1 _ (by omega))
        rw [← hEl]
        refine at_of_cells (fun j u hj => ?_) (by omega) hc2 (by rw [size_setCells, size_setCells]; exact hgw)
        rw [cells_ins] at hj
        rw [c2, c1]
        rcases three _ _ _ hvl j u hj with ⟨l1, l2⟩ | ⟨l1, l2, l3⟩ | ⟨l1, l2, l3⟩
        · rw [if_neg (by omega), if_neg (by omega)]
          show w.cell? _ = _
          rw [hcg j, ← Array.getElem?_toList]
          have : (atCells E)[j]? = some u := by rw [cells_split E i, List.getElem?_append_left l1]; exact l2
          rw [← htk, List.getElem?_take] at this
          split at this
          · exact this
          · cases this
        · rw [if_pos (by omega), ← htl]; exact l3
        · rw [if_neg (by omega), if_pos (by omega), show (i + 1) * 2 = (atCells (E.take i)).length + 2 by omega]; exact l3
      · obtain rfl : cap = E.length := by omega
        refine (insGrow g E.length i vb cur E ch pa w hlt rfl hn hgv hg hcz htk hv).mono ?_
        rintro e w' ⟨G, ROW, rfl, hG1, hG2, hR1, hR2, rfl⟩
        refine ⟨_, rfl, ?_, belowSet _ _ (belowSet _ _ ((Below.refl base w).alloc hbase _).drew hbase).drew hbase⟩
        have hs0 : ∀ j, ((w.alloc (.cells ROW 58)).drew.cell? ⟨w.heap.size, j, none⟩) = ROW[j]? := fun j => by
          show (w.alloc (.cells ROW 58)).cell? _ = _
          exact (obj_cells (heap_alloc w (.cells ROW 58)).1).1 j
        have hs1 : ∀ j, j < E.length * 2 + 2 → ((w.alloc (.cells ROW 58)).drew.cell? ⟨w.heap.size, j, none⟩).isSome = true := fun j hj => by rw [hs0, Array.getElem?_eq_getElem (by omega)]; rfl
        have c1 := setC w.heap.size (vC ch pa) (i * 2) (w.alloc (.cells ROW 58)).drew (fun j hj => hs1 _ (by omega))
        have c2 := setC w.heap.size (atCells (E.drop i)) ((i + 1) * 2) (((w.alloc (.cells ROW 58)).drew.setCells w.heap.size (i * 2) (vC ch pa)).drew) (fun j hj => by
          show (World.cell? ((w.alloc (.cells ROW 58)).drew.setCells w.heap.size (i * 2) (vC ch pa)) _).isSome = true
          rw [c1]
          split
          · omega
          · exact hs1 _ (by omega))
        rw [← hEl]
        refine at_of_cells (fun j u hj => ?_) (by omega) hG2 (by rw [size_setCells]; show _ < (World.setCells _ _ _ _).heap.size; rw [size_setCells]; show _ < (w.alloc _).heap.size; simp)
        rw [cells_ins] at hj
        rw [c2]
        have c1' : ∀ j, World.cell? (((w.alloc (.cells ROW 58)).drew.setCells w.heap.size (i * 2) (vC ch pa)).drew) ⟨w.heap.size, j, none⟩ = _ := c1
        rw [c1']
        rcases three _ _ _ hvl j u hj with ⟨l1, l2⟩ | ⟨l1, l2, l3⟩ | ⟨l1, l2, l3⟩
        · rw [if_neg (by omega), if_neg (by omega), hs0, ← Array.getElem?_toList]
          rw [← hR2, List.getElem?_take] at l2
          split at l2
          · exact l2
          · cases l2
        · rw [if_neg (by omega), if_pos (by omega), ← htl]; exact l3
        · rw [if_pos (by omega), show (i + 1) * 2 = (atCells (E.take i)).length + 2 by omega]; exact l3
end Go.Proofs.Ytgodmppmiamhaaa
