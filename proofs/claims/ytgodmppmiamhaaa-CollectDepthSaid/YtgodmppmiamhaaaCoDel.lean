/-
  One edge taken out (slices.Delete), by the program. Condition: at most 1000 edges.
-/
import Derived.Test.YtgodmppmiamhaaaCoIns3
namespace Go.Proofs.Ytgodmppmiamhaaa
set_option linter.unusedVariables false
set_option linter.unusedSimpArgs false
open Go.RowKit Go.MapKept Go.Shelf
set_option maxHeartbeats 4000000 in
set_option maxRecDepth 100000 in
theorem delRow (g cap i : Nat) (cur : Array Value) (E : Ats) (N : Nat) (hN : E.length = N) (w : World) (hn : N ≤ 1000) (hi : i < N) (hc1 : N ≤ cap) (hc2 : cap ≤ maxLen)
    (hg : w.heap[g]? = some (.cells cur 58)) (hcz : cur.size = cap * 2) (htk : cur.toList.take (N * 2) = atCells E) :
    Calls Try.prog 44 #[.slice (some ⟨g, 0, none⟩) N cap, .int .i64 i, .int .i64 ((i : Int) + 1)] w fun e w' =>
      e = .returned (.slice (some ⟨g, 0, none⟩) (N - 1) cap) ∧ w' = (w.drew.setCells g (i * 2) (atCells (E.drop (i + 1)))).setCells g ((N - 1) * 2) [.string ⟨#[]⟩, .string ⟨#[]⟩] := by
  obtain ⟨i0, hi0, hz0, hzs, hzb⟩ := info_parts infoE
  obtain ⟨hcg, hfg, hgw⟩ := obj_cells hg
  have hrow : ∀ j u, (atCells E)[j]? = some u → w.cell? ⟨g, j, none⟩ = some u := fun j u hu => by
    rw [hcg j, ← Array.getElem?_toList]
    rw [← htk, List.getElem?_take] at hu
    split at hu
    · exact hu
    · cases hu
  have hs1 : ∀ j, j < cap * 2 → (w.drew.cell? ⟨g, j, none⟩).isSome = true := fun j hj => by show (w.cell? _).isSome = true; rw [hcg j, Array.getElem?_eq_getElem (by omega)]; rfl
  have hf1 : ∀ j, w.drew.frozen? ⟨g, j, none⟩ = false := hfg
  have mixed : Try.prog.follows Departure.mixedOrders = true := by kernel_rfl
  have hdl : (atCells (E.drop (i + 1))).length = (N - (i + 1)) * 2 := by rw [atCells_len, List.length_drop, hN]
  have htl : (atCells (E.take (i + 1))).length = (i + 1) * 2 := by rw [atCells_len, List.length_take]; omega
  have hdr : ∀ j u, (atCells (E.drop (i + 1)))[j]? = some u → (atCells E)[(i + 1) * 2 + j]? = some u := fun j u hu => by
    rw [cells_split E (i + 1), List.getElem?_append_right (by rw [htl]; omega), htl, show (i + 1) * 2 + j - (i + 1) * 2 = j by omega]
    exact hu
  obtain ⟨A, hA, hsrc⟩ : ∃ A : Addr, (if cap = i + 1 then some (⟨g, 0, none⟩ : Addr) else some ⟨g, (i + 1) * 2, none⟩) = some A ∧ Hid (∀ t u, (atCells (E.drop (i + 1)))[t]? = some u → w.drew.cell? (A.add t) = some u) := by
    by_cases h : cap = i + 1
    · refine ⟨⟨g, 0, none⟩, by simp [h], fun t u hu => ?_⟩
      have := (List.getElem?_eq_some_iff.1 hu).1
      omega
    · refine ⟨⟨g, (i + 1) * 2, none⟩, by simp [h], fun t u hu => ?_⟩
      rw [Addr.add_lit]
      exact hrow _ u (hdr t u hu)
  have s3 : Hid (∀ t, t < (atCells (E.drop (i + 1))).length → (w.drew.cell? ⟨g, 0 + i * 2 + t, none⟩).isSome = true ∧ w.drew.frozen? ⟨g, 0 + i * 2 + t, none⟩ = false) := fun t ht => ⟨hs1 _ (by omega), hf1 _⟩
  obtain ⟨W1, hW1⟩ : ∃ W1, W1 = w.drew.setCells g (0 + i * 2) (atCells (E.drop (i + 1))) := ⟨_, rfl⟩
  have hcl : ∀ ty, (Builtin.clear_ #[23] ty #[.slice (some ⟨g, (i + (N - (i + 1))) * 2, none⟩) (N - (i + (N - (i + 1)))) (cap - (i + (N - (i + 1))))]).run Try.prog W1 = .ok (.tuple #[]) (W1.setCells g ((N - 1) * 2) [.string ⟨#[]⟩, .string ⟨#[]⟩]) := fun ty => by
    rw [show N - (i + (N - (i + 1))) = 1 by omega, show i + (N - (i + 1)) = N - 1 by omega]
    refine run_clear2 W1 _ _ ty underE zeroE g _ _ (fun j hj => ?_) (fun j hj => by rw [hW1, World.frozen?_setCells]; exact hf1 _)
    rw [hW1]
    exact isSome_setCells g _ _ _ (fun t ht => hs1 _ (by omega)) _ (hs1 _ (by omega))
  have X : Hid (W1 = w.drew.setCells g (0 + i * 2) (atCells (E.drop (i + 1)))) := hW1
  have hic : i ≤ cap := by omega
  have hjc : i + 1 ≤ cap := by omega
  have hm : cap ≤ 9223372036854775807 := by unfold maxLen at hc2; omega
  have hb1 : (0 : Int) ≤ (i : Int) + 1 := by omega
  have hb2 : (i : Int) + 1 ≤ (N : Int) := by omega
  have hb3 : (i : Int) ≤ (i : Int) + 1 := by omega
  have hb4 : ¬ (i : Int) = (i : Int) + 1 := by omega
  have htn : ((i : Int) + 1).toNat = i + 1 := by omega
  have s1 := Lib.hid hdl
  clear hW1 hdr hrow hs1 hf1 hcg hfg htl hdl
  replace hg := Lib.hid hg
  replace htk := Lib.hid htk
  replace hcz := Lib.hid hcz
  replace hN := Lib.hid hN
  go_enter Try.func44, Try.ntmps44
  go_wp2_with fail
  go_region_law_o (refine step_append_room rfl (.tmp 22) (.tmp 25) 23 rfl 58 i0 2 underE hi0 hzs g 0 i cap (by simp [Act.eval, Act.put]) A (N - (i + 1)) (cap - (i + 1)) (atCells (E.drop (i + 1))) (by simp [Act.eval, Act.put]) s1.out hsrc.out (atCells_one _) (by omega) s3.out ?_; rw [← X.out])
  go_wp2
  all_goals go_ret
  all_goals exact ⟨by rw [show i + (N - (i + 1)) = N - 1 by omega]; rfl, by rw [X.out, Nat.zero_add]⟩
theorem cells_erase (E : Ats) (i : Nat) : atCells (E.eraseIdx i) = atCells (E.take i) ++ atCells (E.drop (i + 1)) := by
  rw [List.eraseIdx_eq_take_drop_succ]
  simp [atCells]
theorem delete_any (sv : Value) (base i : Nat) (E : Ats) (w : World) (hn : E.length ≤ 1000) (hi : i < E.length) (hO : w.ownsRow base 58 2 sv E.length (atCells E)) :
    Calls Try.prog 44 #[sv, .int .i64 i, .int .i64 ((i : Int) + 1)] w fun e w' =>
      ∃ sv', e = .returned sv' ∧ AtS w' sv' (E.eraseIdx i) ∧ Below base w w' := by
  have hEl : (E.eraseIdx i).length = E.length - 1 := by rw [List.length_eraseIdx]; simp [hi]
  rcases hO.2 with ⟨h1, h0⟩ | ⟨g, cap, cur, rfl, hb, hg, hc1, hc2, hcz, htk⟩
  · omega
  · obtain ⟨hcg, hfg, hgw⟩ := obj_cells hg
    refine (delRow g cap i cur E E.length rfl w hn hi hc1 hc2 hg hcz htk).mono ?_
    rintro e w' ⟨rfl, rfl⟩
    refine ⟨_, rfl, ?_, belowSet _ _ (belowSet _ _ (Below.refl _ _).drew hb) hb⟩
    have htl : (atCells (E.take i)).length = i * 2 := by rw [atCells_len, List.length_take]; omega
    have hdl : (atCells (E.drop (i + 1))).length = (E.length - (i + 1)) * 2 := by rw [atCells_len, List.length_drop]
    have hs1 : ∀ j, j < cap * 2 → (w.drew.cell? ⟨g, j, none⟩).isSome = true := fun j hj => by show (w.cell? _).isSome = true; rw [hcg j, Array.getElem?_eq_getElem (by omega)]; rfl
    have c1 := setC g (atCells (E.drop (i + 1))) (i * 2) w.drew (fun j hj => hs1 _ (by omega))
    rw [← hEl]
    refine at_of_cells (fun j u hj => ?_) (by omega) hc2 (by rw [size_setCells, size_setCells]; exact hgw)
    have hjl := (List.getElem?_eq_some_iff.1 hj).1
    rw [atCells_len, hEl] at hjl
    rw [World.cell?_setCells_out g _ _ _ ⟨g, j, none⟩ (fun _ _ => by show j < _ ∨ _; omega), c1]
    rw [cells_erase] at hj
    rcases Nat.lt_or_ge j (i * 2) with h1 | h1
    · rw [if_neg (by omega)]
      show w.cell? _ = _
      rw [hcg j, ← Array.getElem?_toList]
      rw [List.getElem?_append_left (by omega)] at hj
      have : (atCells E)[j]? = some u := by rw [cells_split E i, List.getElem?_append_left (by omega)]; exact hj
      rw [← htk, List.getElem?_take] at this
      split at this
      · exact this
      · cases this
    · rw [List.getElem?_append_right (by omega), htl] at hj
      have := (List.getElem?_eq_some_iff.1 hj).1
      rw [if_pos (by omega)]
      exact hj
end Go.Proofs.Ytgodmppmiamhaaa
