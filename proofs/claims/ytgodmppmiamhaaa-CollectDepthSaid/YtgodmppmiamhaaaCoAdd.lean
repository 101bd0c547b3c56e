/-
  Edges with one more, by the program (Add). Condition: at most 1000 edges.
-/
import Derived.Test.YtgodmppmiamhaaaCoDel
namespace Go.Proofs.Ytgodmppmiamhaaa
set_option linter.unusedVariables false
set_option linter.unusedSimpArgs false
open Go.RowKit Go.MapKept Go.Shelf
theorem sN (w : World) : AtS w (.slice none 0 0) [] := at_nil w 0 (by simp)
/-- a pair as Add and Remove answer -/
def PairA (w : World) (e : Ending) (r : Ats × Int) : Prop := ∃ sv, e = .returned (.tuple #[sv, .int .i64 r.2]) ∧ AtS w sv r.1
set_option maxHeartbeats 1000000 in
theorem add_form (v : Value) (E : Ats) (c p : Txt) (w : World) (hA : AtS w v E) (hl : E.length ≤ 1000) (h : c = [] ∨ p = [] ∨ rightE E = false) :
    Calls Try.prog 10 #[v, .string ⟨c.toArray⟩, .string ⟨p.toArray⟩] w fun e w' => PairA w' e (addE E c p) ∧ Below w.heap.size w w' := by
  have ha : Hid (addE E c p = ([], 3)) := Lib.hid (by unfold addE; rw [if_pos h])
  have hR := Lib.hid (coRight_any _ E w hA hl)
  obtain ⟨vp, vc, rfl⟩ : ∃ a c, v = .slice a E.length c := by obtain ⟨a, c, h, -⟩ := hA; exact ⟨a, c, h⟩
  clear hA
  by_cases hc : c = []
  · subst hc
    clear h
    go_enter Try.func10, Try.ntmps10
    go_wp2
    go_ret2
    rw [ha.out]
    exact ⟨⟨_, rfl, sN _⟩, Below.refl _ _⟩
  · by_cases hp : p = []
    · subst hp
      clear h
      have hcb : (c == []) = false := by simpa using hc
      replace hc := Lib.hid hc
      go_enter Try.func10, Try.ntmps10
      go_wp2
      go_ret2
      rw [ha.out]
      exact ⟨⟨_, rfl, sN _⟩, Below.refl _ _⟩
    · have hr : rightE E = false := by simpa [hc, hp] using h
      clear h
      have hcb : (c == []) = false := by simpa using hc
      have hpb : (p == []) = false := by simpa using hp
      replace hc := Lib.hid hc
      replace hp := Lib.hid hp
      rw [hr] at hR
      go_enter Try.func10, Try.ntmps10
      go_wp2_with (go_at_call 11; refine hR.out.mono ?_; rintro e w1 ⟨rfl, hb1⟩; replace hb1 := Lib.hid hb1)
      go_ret2
      rw [ha.out]
      exact ⟨⟨_, rfl, sN _⟩, hb1.out⟩
set_option maxHeartbeats 1000000 in
theorem add_cycle (v : Value) (E : Ats) (c p : Txt) (w : World) (hA : AtS w v E) (hl : E.length ≤ 1000) (hc : c ≠ []) (hp : p ≠ []) (hr : rightE E = true) (h : c = p ∨ isUpE E c p = true) :
    Calls Try.prog 10 #[v, .string ⟨c.toArray⟩, .string ⟨p.toArray⟩] w fun e w' => PairA w' e (addE E c p) ∧ Below w.heap.size w w' := by
  have ha : Hid (addE E c p = ([], 9)) := Lib.hid (by unfold addE; rw [if_neg (by simp [hc, hp, hr]), if_pos h])
  have hR := Lib.hid (coRight_any _ E w hA hl)
  have hU : Hid (∀ W1, Below w.heap.size w W1 → Calls Try.prog 30 #[v, .string ⟨c.toArray⟩, .string ⟨p.toArray⟩] W1 fun r w' => r = .returned (.bool (isUpE E c p)) ∧ Below W1.heap.size W1 w') := Lib.hid fun W1 hb => isUp_any v E c p W1 (hA.below hb) hl (right_parts hr).2.2.1
  obtain ⟨vp, vc, rfl⟩ : ∃ a c, v = .slice a E.length c := by obtain ⟨a, c, h, -⟩ := hA; exact ⟨a, c, h⟩
  rw [hr] at hR
  clear hA
  have hcb : (c == []) = false := by simpa using hc
  have hpb : (p == []) = false := by simpa using hp
  by_cases hcp : c = p
  · subst hcp
    replace hc := Lib.hid hc
    replace hp := Lib.hid hp
    clear h
    go_enter Try.func10, Try.ntmps10
    go_wp2_with (go_at_call 11; refine hR.out.mono ?_; rintro e w1 ⟨rfl, hb1⟩; replace hb1 := Lib.hid hb1)
    go_ret2
    rw [ha.out]
    exact ⟨⟨_, rfl, sN _⟩, hb1.out⟩
  · have hu : isUpE E c p = true := by simpa [hcp] using h
    have hcpb : (c == p) = false := by simpa using hcp
    replace hc := Lib.hid hc
    replace hp := Lib.hid hp
    replace hcp := Lib.hid hcp
    rw [hu] at hU
    clear h
    go_enter Try.func10, Try.ntmps10
    go_wp2_with (first
      | (go_at_call 11; refine hR.out.mono ?_; rintro e w1 ⟨rfl, hb1⟩; replace hb1 := Lib.hid hb1)
      | (go_at_call 30; refine (hU.out _ hb1.out).mono ?_; rintro e w2 ⟨rfl, hb2⟩; replace hb2 := Lib.hid hb2))
    go_ret2
    rw [ha.out]
    exact ⟨⟨_, rfl, sN _⟩, belowT hb1.out hb2.out⟩
/-- a row of edges whose block is known -/
theorem owns_set {w : World} {base : Nat} {sv : Value} {E : Ats} (h : w.ownsRow base 58 2 sv E.length (atCells E)) {i : Nat} (hi : i < E.length) :
    ∃ g cap, sv = .slice (some ⟨g, 0, none⟩) E.length cap ∧ base ≤ g ∧ g < w.heap.size ∧ (w.cell? ⟨g, i * 2, none⟩).isSome = true ∧ (w.cell? ⟨g, i * 2 + 1, none⟩).isSome = true ∧ (∀ j, w.frozen? ⟨g, j, none⟩ = false) ∧
      ∀ (W1 : World) x y, W1.heap[g]? = w.heap[g]? → AtS ((W1.setCell ⟨g, i * 2, none⟩ (.string ⟨(x : Txt).toArray⟩)).setCell ⟨g, i * 2 + 1, none⟩ (.string ⟨(y : Txt).toArray⟩)) sv (E.set i (x, y)) := by
  rcases h.2 with ⟨h1, h0⟩ | ⟨g, cap, cur, rfl, hb, hg, hc1, hc2, hcz, htk⟩
  · omega
  · obtain ⟨hcg, hfg, hgw⟩ := obj_cells hg
    refine ⟨g, cap, rfl, hb, hgw, by rw [hcg, Array.getElem?_eq_getElem (by omega)]; rfl, by rw [hcg, Array.getElem?_eq_getElem (by omega)]; rfl, hfg, fun W1 x y hW => ?_⟩
    have hg1 := hW.trans hg
    have e1 := obj_set (i := i * 2 + 1) (obj_set (i := i * 2) hg1 (.string ⟨x.toArray⟩)) (.string ⟨y.toArray⟩)
    obtain ⟨c1, -, l1⟩ := obj_cells e1
    have hel : (E.set i (x, y)).length = E.length := List.length_set
    rw [show (Value.slice (some ⟨g, 0, none⟩) E.length cap) = .slice (some ⟨g, 0, none⟩) (E.set i (x, y)).length cap by rw [hel]]
    refine ⟨_, cap, rfl, by omega, hc2, fun _ => ⟨g, 0, rfl, l1, fun k hk => ?_⟩⟩
    rw [hel] at hk
    have o0 : cur[k * 2]? = some (.string ⟨(E[k]'hk).1.toArray⟩) := by
      have := (atCells_get E k hk).1
      rw [← htk, List.getElem?_take] at this
      split at this
      · simpa using this
      · cases this
    have o1 : cur[k * 2 + 1]? = some (.string ⟨(E[k]'hk).2.toArray⟩) := by
      have := (atCells_get E k hk).2
      rw [← htk, List.getElem?_take] at this
      split at this
      · simpa using this
      · cases this
    rw [c1, c1]
    by_cases hki : k = i
    · subst hki
      constructor
      · rw [Nat.zero_add, Array.getElem?_setIfInBounds_ne (by omega), Array.getElem?_setIfInBounds_self_of_lt (by omega)]
        simp
      · rw [Nat.zero_add, Array.getElem?_setIfInBounds_self_of_lt (by rw [Array.size_setIfInBounds]; omega)]
        simp
    · have hne : i ≠ k := fun e => hki e.symm
      constructor
      · rw [Array.getElem?_setIfInBounds_ne (by omega), Array.getElem?_setIfInBounds_ne (by omega), Nat.zero_add, o0]
        simp [List.getElem_set_ne hne]
      · rw [Array.getElem?_setIfInBounds_ne (by omega), Array.getElem?_setIfInBounds_ne (by omega), Nat.zero_add, o1]
        simp [List.getElem_set_ne hne]
theorem add_full (v : Value) (E : Ats) (c p : Txt) (w : World) (hA : AtS w v E) (hl : E.length ≤ 1000) (hc : c ≠ []) (hp : p ≠ []) (hr : rightE E = true) (hcp : c ≠ p) (hu : isUpE E c p = false) (hpar : parE E c = none) (hfl : E.length = 64) :
    Calls Try.prog 10 #[v, .string ⟨c.toArray⟩, .string ⟨p.toArray⟩] w fun e w' => PairA w' e (addE E c p) ∧ Below w.heap.size w w' := by
  have ha : Hid (addE E c p = ([], 4)) := Lib.hid (by unfold addE; rw [if_neg (by simp [hc, hp, hr]), if_neg (by simp [hcp, hu]), if_pos ⟨hpar, by omega⟩])
  have hcb : (c == []) = false := by simpa using hc
  have hpb : (p == []) = false := by simpa using hp
  have hcpb : (c == p) = false := by simpa using hcp
  have hs := (right_parts hr).2.2.1
  have hR := Lib.hid (coRight_any _ E w hA hl)
  have hU : Hid (∀ W1, Below w.heap.size w W1 → Calls Try.prog 30 #[v, .string ⟨c.toArray⟩, .string ⟨p.toArray⟩] W1 fun r w' => r = .returned (.bool false) ∧ Below W1.heap.size W1 w') := Lib.hid fun W1 hb => (isUp_any v E c p W1 (hA.below hb) hl hs).mono (by rintro e w' ⟨rfl, h⟩; rw [hu]; exact ⟨rfl, h⟩)
  have hC : Hid (∀ W1, Below w.heap.size w W1 → Calls Try.prog 31 #[v] W1 fun e w' => ∃ sv', e = .returned sv' ∧ w'.ownsRow W1.heap.size 58 2 sv' E.length (atCells E) ∧ Below W1.heap.size W1 w') := Lib.hid fun W1 hb => cloneE_any v E W1 (hA.below hb) (by omega)
  obtain ⟨vp, vc, rfl⟩ : ∃ a c, v = .slice a E.length c := by obtain ⟨a, c, h, -⟩ := hA; exact ⟨a, c, h⟩
  rw [hr] at hR
  have hF : Hid (∀ W1, Below w.heap.size w W1 → Calls Try.prog 32 #[.slice vp E.length vc, .string ⟨c.toArray⟩] W1 fun e w' => ∃ i : Nat, e = .returned (.tuple #[.int .i64 i, .bool false]) ∧ i ≤ E.length ∧ Hid (insE c p E = E.take i ++ (c, p) :: E.drop i) ∧ Below W1.heap.size W1 w') := Lib.hid fun W1 hb => (find_any _ E c W1 (hA.below hb) hl).mono (by
    rintro e w' ⟨i, rfl, h1, h2, h3⟩
    obtain ⟨p1, p2⟩ := pos_all hs (h2 hs)
    cases hh : hitE E c i with
    | false => exact ⟨i, rfl, h1, Lib.hid ((p2 hh).2.1 p), h3⟩
    | true => obtain ⟨_, -, h4, -⟩ := p1 hh; rw [hpar] at h4; cases h4)
  rw [hfl] at hR hU hC hF ⊢
  clear hA hu hpar hs
  replace hc := Lib.hid hc
  replace hp := Lib.hid hp
  replace hcp := Lib.hid hcp
  replace hfl := Lib.hid hfl
  go_enter Try.func10, Try.ntmps10
  go_wp2_with (first
    | (go_at_call 11; refine hR.out.mono ?_; rintro e w1 ⟨rfl, hb1⟩; replace hb1 := Lib.hid hb1)
    | (go_at_call 30; refine (hU.out _ hb1.out).mono ?_; rintro e w2 ⟨rfl, hb2⟩; replace hb2 := Lib.hid (belowT hb1.out hb2))
    | (go_at_call 31; refine (hC.out _ (belowA hb2.out _)).mono ?_; rintro e w3 ⟨sv', rfl, hO3, hb3⟩; obtain ⟨oa, oc, rfl⟩ := owns_shp hO3; replace hb3 := Lib.hid (belowT (belowA hb2.out _) hb3))
    | (go_at_call 32; refine (hF.out _ hb3.out).mono ?_; rintro e w4 ⟨i, rfl, -, -, hb4⟩; replace hb4 := Lib.hid (belowT hb3.out hb4)))
  go_ret2
  rw [ha.out]
  exact ⟨⟨_, rfl, sN _⟩, hb4.out⟩
set_option maxHeartbeats 2000000 in
theorem add_ins (v : Value) (E : Ats) (c p : Txt) (w : World) (hA : AtS w v E) (hl : E.length ≤ 1000) (hc : c ≠ []) (hp : p ≠ []) (hr : rightE E = true) (hcp : c ≠ p) (hu : isUpE E c p = false) (hpar : parE E c = none) (hfl : E.length ≠ 64) :
    Calls Try.prog 10 #[v, .string ⟨c.toArray⟩, .string ⟨p.toArray⟩] w fun e w' => PairA w' e (addE E c p) ∧ Below w.heap.size w w' := by
  have ha : Hid (addE E c p = (insE c p E, 0)) := Lib.hid (by have := (right_parts hr).1; unfold addE; rw [if_neg (by simp [hc, hp, hr]), if_neg (by simp [hcp, hu]), if_neg (by omega)])
  have hcb : (c == []) = false := by simpa using hc
  have hpb : (p == []) = false := by simpa using hp
  have hcpb : (c == p) = false := by simpa using hcp
  have hs := (right_parts hr).2.2.1
  have hR := Lib.hid (coRight_any _ E w hA hl)
  have hU : Hid (∀ W1, Below w.heap.size w W1 → Calls Try.prog 30 #[v, .string ⟨c.toArray⟩, .string ⟨p.toArray⟩] W1 fun r w' => r = .returned (.bool false) ∧ Below W1.heap.size W1 w') := Lib.hid fun W1 hb => (isUp_any v E c p W1 (hA.below hb) hl hs).mono (by rintro e w' ⟨rfl, h⟩; rw [hu]; exact ⟨rfl, h⟩)
  have hC : Hid (∀ W1, Below w.heap.size w W1 → Calls Try.prog 31 #[v] W1 fun e w' => ∃ sv', e = .returned sv' ∧ w'.ownsRow W1.heap.size 58 2 sv' E.length (atCells E) ∧ Below W1.heap.size W1 w') := Lib.hid fun W1 hb => cloneE_any v E W1 (hA.below hb) (by omega)
  obtain ⟨vp, vc, rfl⟩ : ∃ a c, v = .slice a E.length c := by obtain ⟨a, c, h, -⟩ := hA; exact ⟨a, c, h⟩
  rw [hr] at hR
  have hF : Hid (∀ W1, Below w.heap.size w W1 → Calls Try.prog 32 #[.slice vp E.length vc, .string ⟨c.toArray⟩] W1 fun e w' => ∃ i : Nat, e = .returned (.tuple #[.int .i64 i, .bool false]) ∧ i ≤ E.length ∧ Hid (insE c p E = E.take i ++ (c, p) :: E.drop i) ∧ Below W1.heap.size W1 w') := Lib.hid fun W1 hb => (find_any _ E c W1 (hA.below hb) hl).mono (by
    rintro e w' ⟨i, rfl, h1, h2, h3⟩
    obtain ⟨p1, p2⟩ := pos_all hs (h2 hs)
    cases hh : hitE E c i with
    | false => exact ⟨i, rfl, h1, Lib.hid ((p2 hh).2.1 p), h3⟩
    | true => obtain ⟨_, -, h4, -⟩ := p1 hh; rw [hpar] at h4; cases h4)
  have hI : Hid (∀ (sv : Value) (base vb i : Nat) (W1 : World), i ≤ E.length → W1.ownsRow base 58 2 sv E.length (atCells E) → base ≤ W1.heap.size → (∀ k, sv.ownBlock = some k → k ≠ vb) → W1.heap[vb]? = some (.cells #[.string ⟨c.toArray⟩, .string ⟨p.toArray⟩] 58) → Calls Try.prog 33 #[sv, .int .i64 i, .slice (some ⟨vb, 0, none⟩) 1 1] W1 fun e w' =>
      ∃ sv', e = .returned sv' ∧ AtS w' sv' (E.take i ++ (c, p) :: E.drop i) ∧ Below base W1 w') := Lib.hid fun sv base vb i W1 h1 h2 h3 h4 h5 => insert_any sv base vb i E c p W1 hl h1 h2 h3 h4 h5
  obtain ⟨N, hN⟩ : ∃ N, E.length = N := ⟨_, rfl⟩
  rw [hN] at hR hU hC hF hfl hl hI ⊢
  have hfi : ¬ (N : Int) = 64 := by omega
  replace hN := Lib.hid hN
  clear hA hu hpar hs
  replace hc := Lib.hid hc
  replace hp := Lib.hid hp
  replace hcp := Lib.hid hcp
  replace hfl := Lib.hid hfl
  go_enter Try.func10, Try.ntmps10
  go_wp2_with (first
    | (go_at_call 11; refine hR.out.mono ?_; rintro e w1 ⟨rfl, hb1⟩; replace hb1 := Lib.hid hb1)
    | (go_at_call 30; refine (hU.out _ hb1.out).mono ?_; rintro e w2 ⟨rfl, hb2⟩; replace hb2 := Lib.hid (belowT hb1.out hb2))
    | (go_at_call 31; refine (hC.out _ (belowA hb2.out _)).mono ?_
       rintro e w3 ⟨sv', rfl, hO3, hb3⟩
       obtain ⟨oa, oc, rfl⟩ := owns_shp hO3
       have hbx3 := Lib.hid ((hb3.block w2.heap.size (by simp)).trans (heap_alloc w2 (.cells #[.string ⟨c.toArray⟩, .string ⟨p.toArray⟩] 58)).1)
       replace hb3 := Lib.hid (belowT (belowA hb2.out _) hb3)
       replace hO3 := Lib.hid hO3)
    | (go_at_call 32; refine (hF.out _ hb3.out).mono ?_
       rintro e w4 ⟨i, rfl, hi, hins, hb4⟩
       have hO4 := owns_below hO3.out hb4
       have hbx4 := (hb4.block _ (Array.getElem?_eq_some_iff.1 hbx3.out).1).trans hbx3.out
       obtain ⟨x4, y4, z4⟩ := obj_cells hbx4
       have x40 := x4 0
       have x41 := x4 1
       clear x4
       replace hb4 := Lib.hid (belowT hb3.out hb4)
       replace hO4 := Lib.hid hO4
       replace hbx4 := Lib.hid hbx4)
    | (go_at_call 33; refine (hI.out _ w.heap.size w4.heap.size i _ hi ((owns_down hO4.out (by have := hb2.out.size; simp only [World.size_alloc]; omega)).alloc _) (by have := hb4.out.size; simp only [World.size_alloc]; omega) (fun k hk => by have := (hO4.out.lt k hk).2; omega) (heap_alloc _ _).1).mono ?_
       rintro e w5 ⟨sv5, rfl, hA5, hb5⟩
       obtain ⟨oa5, on5, oc5, rfl⟩ : ∃ a n c', sv5 = .slice a n c' := (by obtain ⟨a, c, h, -⟩ := hA5; exact ⟨a, _, c, h⟩)
       rw [← hins.out] at hA5
       replace hA5 := Lib.hid hA5
       replace hb5 := Lib.hid hb5))
  go_ret2
  rw [ha.out]
  exact ⟨⟨_, rfl, hA5.out⟩, (belowA hb4.out _).trans hb5.out⟩
set_option maxHeartbeats 2000000 in
theorem add_set (v : Value) (E : Ats) (c p : Txt) (w : World) (hA : AtS w v E) (hl : E.length ≤ 1000) (hc : c ≠ []) (hp : p ≠ []) (hr : rightE E = true) (hcp : c ≠ p) (hu : isUpE E c p = false) (hpar : parE E c ≠ none) :
    Calls Try.prog 10 #[v, .string ⟨c.toArray⟩, .string ⟨p.toArray⟩] w fun e w' => PairA w' e (addE E c p) ∧ Below w.heap.size w w' := by
  have ha : Hid (addE E c p = (insE c p E, 0)) := Lib.hid (by unfold addE; rw [if_neg (by simp [hc, hp, hr]), if_neg (by simp [hcp, hu]), if_neg (fun h => hpar h.1)])
  have hcb : (c == []) = false := by simpa using hc
  have hpb : (p == []) = false := by simpa using hp
  have hcpb : (c == p) = false := by simpa using hcp
  have hs := (right_parts hr).2.2.1
  have hR := Lib.hid (coRight_any _ E w hA hl)
  have hU : Hid (∀ W1, Below w.heap.size w W1 → Calls Try.prog 30 #[v, .string ⟨c.toArray⟩, .string ⟨p.toArray⟩] W1 fun r w' => r = .returned (.bool false) ∧ Below W1.heap.size W1 w') := Lib.hid fun W1 hb => (isUp_any v E c p W1 (hA.below hb) hl hs).mono (by rintro e w' ⟨rfl, h⟩; rw [hu]; exact ⟨rfl, h⟩)
  have hC : Hid (∀ W1, Below w.heap.size w W1 → Calls Try.prog 31 #[v] W1 fun e w' => ∃ sv', e = .returned sv' ∧ w'.ownsRow W1.heap.size 58 2 sv' E.length (atCells E) ∧ Below W1.heap.size W1 w') := Lib.hid fun W1 hb => cloneE_any v E W1 (hA.below hb) (by omega)
  obtain ⟨vp, vc, rfl⟩ : ∃ a c, v = .slice a E.length c := by obtain ⟨a, c, h, -⟩ := hA; exact ⟨a, c, h⟩
  rw [hr] at hR
  have hF : Hid (∀ W1, Below w.heap.size w W1 → Calls Try.prog 32 #[.slice vp E.length vc, .string ⟨c.toArray⟩] W1 fun e w' => ∃ i : Nat, e = .returned (.tuple #[.int .i64 i, .bool true]) ∧ i < E.length ∧ Hid (insE c p E = E.set i (c, p)) ∧ Below W1.heap.size W1 w') := Lib.hid fun W1 hb => (find_any _ E c W1 (hA.below hb) hl).mono (by
    rintro e w' ⟨i, rfl, h1, h2, h3⟩
    obtain ⟨p1, p2⟩ := pos_all hs (h2 hs)
    cases hh : hitE E c i with
    | false => exact absurd (p2 hh).1 hpar
    | true => obtain ⟨h5, -, -, h6, -⟩ := p1 hh; exact ⟨i, rfl, h5, Lib.hid (h6 p), h3⟩)
  have hST : Hid (∀ (sv : Value) (W1 : World) (i : Nat), W1.ownsRow (w.heap.size + 1) 58 2 sv E.length (atCells E) → i < E.length → ∃ g cap, sv = .slice (some ⟨g, 0, none⟩) E.length cap ∧ w.heap.size + 1 ≤ g ∧ g < W1.heap.size ∧ (W1.cell? ⟨g, i * 2, none⟩).isSome = true ∧ (W1.cell? ⟨g, i * 2 + 1, none⟩).isSome = true ∧ (∀ j, W1.frozen? ⟨g, j, none⟩ = false) ∧
      ∀ (W2 : World) x y, W2.heap[g]? = W1.heap[g]? → AtS ((W2.setCell ⟨g, i * 2, none⟩ (.string ⟨(x : Txt).toArray⟩)).setCell ⟨g, i * 2 + 1, none⟩ (.string ⟨(y : Txt).toArray⟩)) sv (E.set i (x, y))) := Lib.hid fun sv W1 i h1 h2 => owns_set h1 h2
  obtain ⟨N, hN⟩ : ∃ N, E.length = N := ⟨_, rfl⟩
  rw [hN] at hR hU hC hF hl hST ⊢
  replace hN := Lib.hid hN
  clear hA hu hs
  replace hpar := Lib.hid hpar
  replace hc := Lib.hid hc
  replace hp := Lib.hid hp
  replace hcp := Lib.hid hcp
  go_enter Try.func10, Try.ntmps10
  go_wp2_with (first
    | (go_at_call 11; refine hR.out.mono ?_; rintro e w1 ⟨rfl, hb1⟩; replace hb1 := Lib.hid hb1)
    | (go_at_call 30; refine (hU.out _ hb1.out).mono ?_; rintro e w2 ⟨rfl, hb2⟩; replace hb2 := Lib.hid (belowT hb1.out hb2))
    | (go_at_call 31; refine (hC.out _ (belowA hb2.out _)).mono ?_
       rintro e w3 ⟨sv', rfl, hO3, hb3⟩
       obtain ⟨oa, oc, rfl⟩ := owns_shp hO3
       have hbx3 := Lib.hid ((hb3.block w2.heap.size (by simp)).trans (heap_alloc w2 (.cells #[.string ⟨c.toArray⟩, .string ⟨p.toArray⟩] 58)).1)
       replace hb3 := Lib.hid (belowT (belowA hb2.out _) hb3)
       replace hO3 := Lib.hid hO3)
    | (go_at_call 32; refine (hF.out _ hb3.out).mono ?_
       rintro e w4 ⟨i, rfl, hi, hins, hb4⟩
       have hO4 := owns_below hO3.out hb4
       have hbx4 := (hb4.block _ (Array.getElem?_eq_some_iff.1 hbx3.out).1).trans hbx3.out
       obtain ⟨x4, y4, z4⟩ := obj_cells hbx4
       have x40 := x4 0
       have x41 := x4 1
       simp only [List.getElem?_toArray, List.getElem?_cons_zero, List.getElem?_cons_succ] at x40 x41
       clear x4 y4
       obtain ⟨g, cap, he, hg1, hg2, hg3, hg4, hg5, hg6⟩ := hST.out _ _ i (owns_down hO4 (by have := hb2.out.size; simp only [World.size_alloc]; omega)) hi
       injection he with he1 he2 he3
       subst he1 he3
       obtain ⟨u0, hu0⟩ := Option.isSome_iff_exists.1 hg3
       obtain ⟨u1, hu1⟩ := Option.isSome_iff_exists.1 hg4
       have f0 := hg5 (i * 2)
       have f1 := hg5 (i * 2 + 1)
       have hi0 : (0 : Int) ≤ (i : Int) := by omega
       have hiI : (i : Int) < (N : Int) := by omega
       clear hg3 hg4 hg5
       replace hg6 := Lib.hid (hg6 w4 c p rfl)
       replace hb4 := Lib.hid (belowT hb3.out hb4)
       replace hO4 := Lib.hid hO4
       replace hbx4 := Lib.hid hbx4))
  go_ret2
  rw [ha.out, hins.out]
  exact ⟨⟨_, rfl, hg6.out⟩, (hb4.out.setCell (p := ⟨g, i * 2, none⟩) (by show w.heap.size ≤ g; omega) _).setCell (p := ⟨g, i * 2 + 1, none⟩) (by show w.heap.size ≤ g; omega) _⟩
theorem add_any (v : Value) (E : Ats) (c p : Txt) (w : World) (hA : AtS w v E) (hl : E.length ≤ 1000) :
    Calls Try.prog 10 #[v, .string ⟨c.toArray⟩, .string ⟨p.toArray⟩] w fun e w' => PairA w' e (addE E c p) ∧ Below w.heap.size w w' := by
  by_cases h1 : c = [] ∨ p = [] ∨ rightE E = false
  · exact add_form v E c p w hA hl h1
  · have hc : c ≠ [] := fun h => h1 (.inl h)
    have hp : p ≠ [] := fun h => h1 (.inr (.inl h))
    have hr : rightE E = true := by cases h : rightE E with
      | true => rfl
      | false => exact absurd (.inr (.inr h)) h1
    by_cases h2 : c = p ∨ isUpE E c p = true
    · exact add_cycle v E c p w hA hl hc hp hr h2
    · have hcp : c ≠ p := fun h => h2 (.inl h)
      have hu : isUpE E c p = false := by cases h : isUpE E c p with
        | false => rfl
        | true => exact absurd (.inr h) h2
      by_cases h3 : parE E c = none
      · by_cases h4 : E.length = 64
        · exact add_full v E c p w hA hl hc hp hr hcp hu h3 h4
        · exact add_ins v E c p w hA hl hc hp hr hcp hu h3 h4
      · exact add_set v E c p w hA hl hc hp hr hcp hu h3
end Go.Proofs.Ytgodmppmiamhaaa
