/-
  The reference's Right. Condition: at most 1000 edges.
-/
import Derived.Test.YtgodmppmiamhaaaCoRef2
namespace Go.Proofs.Ytgodmppmiamhaaa
set_option linter.unusedVariables false
set_option linter.unusedSimpArgs false
open Go.RowKit Go.MapKept Go.Shelf
theorem leq_run (a b : Txt) (W : World) : (binOp .leq 9 (.string ⟨b.toArray⟩) (.string ⟨a.toArray⟩)).run Try.prog W = .ok (.bool (!decide (a < b))) W := by
  have h : (decide (b < a) || b == a) = !decide (a < b) := by
    rcases tl_tri a b with h | h | h
    · have h1 : ¬ b < a := fun h' => tl_irrefl a (tl_trans h h')
      have h2 : ¬ b = a := fun e => tl_irrefl a (e ▸ h)
      simp [h, h1, h2]
    · subst h
      simp [tl_irrefl a]
    · have h1 : ¬ a < b := fun h' => tl_irrefl a (tl_trans h' h)
      simp [h, h1]
  simp [binOp, Op.stringOp, bytesLess_eq, Lib.toList_data, h]
theorem keepH {w W w' : World} {b o : Nat} {x : Value} (h : W.cell? ⟨b, o, none⟩ = some x ∧ Below w.heap.size w W) (hb : b < w.heap.size) (hB : Below W.heap.size W w') : w'.cell? ⟨b, o, none⟩ = some x ∧ Below w.heap.size w w' :=
  ⟨((bat hB b (Nat.lt_of_lt_of_le hb h.2.size)).1 _).trans h.1, belowT h.2 hB⟩
theorem all_pre {E : Ats} {q : Txt × Txt → Bool} (h : ∀ i (h : i < E.length), q (E[i]'h) = false) : (E.any q) = false := any_take (k := E.length) (fun i h' _ => h i h') (Nat.le_refl _)
set_option maxHeartbeats 4000000 in
theorem refRight_any (v : Value) (E : Ats) (w : World) (hA : AtS w v E) (hl : E.length ≤ 1000) :
    Calls Try.prog 28 #[v] w fun e w' => e = .returned (.bool (rightE E)) ∧ Below w.heap.size w w' := by
  have hA0 := hA
  obtain ⟨ptr, cap, rfl, hc1, hc2, hat⟩ := hA
  obtain ⟨N, hN⟩ : ∃ N, E.length = N := ⟨_, rfl⟩
  by_cases h64 : N ≤ 64
  · rw [hN] at hA0 ⊢
    have hUp : Hid (∀ W1 c, Below w.heap.size w W1 → Calls Try.prog 42 #[.slice ptr N cap, .string ⟨c.toArray⟩] W1 fun e w' => ∃ sv, e = .returned sv ∧ StS w' sv (aboveE E c) ∧ Below W1.heap.size W1 w') := Lib.hid fun W1 c hb => refAbove_any _ E c W1 (hA0.below hb) hl
    have hlE := Lib.hid hl
    have h64E : Hid (E.length ≤ 64) := Lib.hid (by omega)
    replace hA0 := Lib.hid hA0
    clear hl
    replace hN := Lib.hid hN
    replace hat := Lib.hid hat
    have h64i : ¬ (64 : Int) < (N : Int) := by omega
    go_enter Try.func28, Try.ntmps28
    go_wp2
    go_loopw [3] (fun s10 wr => ∃ k : Nat, k ≤ N ∧ s10 = .int .i64 k ∧ Hid (okTo E k) ∧ Hid (Below w.heap.size w wr)) (fun s10 _ => N - (intOf s10).toNat)
    case atStart => exact ⟨0, Nat.zero_le _, rfl, Lib.hid ⟨fun i _ hi => absurd hi (Nat.not_lt_zero _), fun i _ hi => absurd hi (Nat.not_lt_zero _)⟩, Lib.hid (Below.refl _ _)⟩
    case round =>
      obtain ⟨k, hk, rfl, hok, hB⟩ := hrel
      by_cases hlt : k < N
      · have hk3 : k < E.length := by have := hN.out; omega
        obtain ⟨b, o, rfl, hb, hcc⟩ := hat.out (by omega)
        obtain ⟨d0, d1⟩ := hcc k hk3
        have kc := fun (j : Nat) => hB.out.cell (p := ⟨b, j, none⟩) hb
        replace d0 := (kc _).trans d0
        replace d1 := (kc _).trans d1
        have hbe := Lib.hid (bad_empty hk3)
        have hprev : 0 < k → ∃ pc : Txt, wr.cell? ⟨b, o + (k - 1) * 2, none⟩ = some (.string ⟨pc.toArray⟩) ∧ (¬ pc < (E[k]'hk3).1 → rightE E = false) ∧ (pc < (E[k]'hk3).1 → okTo E k → (E[k]'hk3).1 ≠ [] → (E[k]'hk3).2 ≠ [] → okTo E (k + 1)) := by
          intro h0
          obtain ⟨j, rfl⟩ : ∃ j, k = j + 1 := ⟨k - 1, by omega⟩
          refine ⟨(E[j]'(by omega)).1, (kc _).trans (hcc j (by omega)).1, fun h => bad_sort hk3 h, fun h1 h2 h3 h4 => ⟨fun i hi hlt' => ?_, fun i hi hlt' => ?_⟩⟩
          · rcases Nat.lt_or_ge i (j + 1) with h' | h'
            · exact h2.1 i hi h'
            · obtain rfl : i = j + 1 := by omega
              exact ⟨h3, h4⟩
          · rcases Nat.lt_or_ge (i + 1) (j + 1) with h' | h'
            · exact h2.2 i hi h'
            · obtain rfl : i = j := by omega
              exact h1
        have hfirst : k = 0 → (E[k]'hk3).1 ≠ [] → (E[k]'hk3).2 ≠ [] → okTo E (k + 1) := by
          intro h0 h3 h4
          subst h0
          exact ⟨fun i hi hlt' => by obtain rfl : i = 0 := by omega
                                     exact ⟨h3, h4⟩, fun i hi hlt' => by omega⟩
        clear kc hcc
        generalize E[k] = x at d0 d1 hbe hprev hfirst
        obtain ⟨ch, pa⟩ := x
        simp only at d0 d1 hbe hprev hfirst
        replace hprev := Lib.hid hprev
        replace hfirst := Lib.hid hfirst
        have hki : (k : Int) < (N : Int) := by omega
        have hk0 : (0 : Int) ≤ (k : Int) := by omega
        have hbw : b < wr.heap.size := Nat.lt_of_lt_of_le hb hB.out.size
        by_cases c1 : ch = []
        · have hr := Lib.hid (hbe.out (.inl c1))
          subst c1
          go_wp2_with fail
          go_quiet (fail)
          go_wp2_with fail
          go_ret
          exact ⟨ret_bool hr.out.symm, belowN hB.out _⟩
        · have c1b : (ch == []) = false := by simpa using c1
          by_cases c2 : pa = []
          · have hr := Lib.hid (hbe.out (.inr c2))
            subst c2
            replace c1 := Lib.hid c1
            go_wp2_with fail
            go_quiet (fail)
            go_wp2_with fail
            go_ret
            exact ⟨ret_bool hr.out.symm, belowN hB.out _⟩
          · have c2b : (pa == []) = false := by simpa using c2
            by_cases h0 : k = 0
            · have hnx := Lib.hid (hfirst.out h0 c1 c2)
              have h0i : ¬ (0 : Int) < (k : Int) := by omega
              have h0d : decide (0 < k) = false := by simp; omega
              have h0n : ¬ 0 < k := by omega
              replace c1 := Lib.hid c1
              replace c2 := Lib.hid c2
              replace h0 := Lib.hid h0
              go_wp2_with fail
              go_quiet (fail)
              go_wp2_with fail
              refine ⟨⟨k + 1, by omega, by simp, hnx, Lib.hid (belowN hB.out _)⟩, by simp [intOf]; omega⟩
            · obtain ⟨pc, dp, hbad, hnx⟩ := hprev.out (by omega)
              have h0n : 0 < k := by omega
              have h0d : decide (0 < k) = true := by simp; omega
              have p1 : IntKind.i64.wrap ((k : Int) - 1) = (k : Int) - 1 := wrap_small _ (by omega) (by omega)
              have p6 : 1 ≤ k := by omega
              have hix := fun W : World => ix_prev b o N cap k W p6 hk
              by_cases c3 : pc < ch
              · have hnx1 := Lib.hid (hnx c3 hok.out c1 c2)
                have c3b := leq_run pc ch
                rw [decide_eq_true c3] at c3b
                replace c1 := Lib.hid c1
                replace c2 := Lib.hid c2
                replace c3 := Lib.hid c3
                clear hnx hbad
                go_wp2_with fail
                go_quiet (fail)
                go_wp2_with fail
                refine ⟨⟨k + 1, by omega, by simp, hnx1, Lib.hid (belowN hB.out _)⟩, by simp [intOf]; omega⟩
              · have hr := Lib.hid (hbad c3)
                have c3b := leq_run pc ch
                rw [decide_eq_false c3] at c3b
                replace c1 := Lib.hid c1
                replace c2 := Lib.hid c2
                replace c3 := Lib.hid c3
                clear hnx hbad
                go_wp2_with fail
                go_quiet (fail)
                go_wp2_with fail
                go_ret
                exact ⟨ret_bool hr.out.symm, belowN hB.out _⟩
      · obtain rfl : k = N := by omega
        have hki : ¬ (k : Int) < (k : Int) := by omega
        have hE2 := okTo_all (E := E) (by rw [hN.out]; exact hok.out)
        have hre := right_end h64E.out (by rw [hN.out]; exact hok.out)
        replace hre := Lib.hid hre
        replace hok := Lib.hid hok
        clear hE2
        go_wp2
        go_loopw [4] (fun s4 wx => ∃ j : Nat, j ≤ k ∧ s4 = .int .i64 j ∧ Hid (∀ i (h : i < E.length), i < j → isUpE E (E[i]'h).1 (E[i]'h).1 = false) ∧ Hid (Below w.heap.size w wx)) (fun s4 _ => k - (intOf s4).toNat)
        case atStart => exact ⟨0, Nat.zero_le _, rfl, Lib.hid (fun i _ hi => absurd hi (Nat.not_lt_zero _)), hB⟩
        case round =>
          obtain ⟨j, hj, rfl, hno, hX⟩ := hrel
          by_cases hlt2 : j < k
          · have hk3 : j < E.length := by have := hN.out; omega
            obtain ⟨b, o, rfl, hb, hcc⟩ := hat.out (by omega)
            have d0 := (hX.out.cell (p := ⟨b, o + j * 2, none⟩) hb).trans (hcc j hk3).1
            have hmem := List.getElem_mem hk3
            have hbad : isUpE E (E[j]'hk3).1 (E[j]'hk3).1 = true → rightE E = false := fun h => by
              rw [hre.out]
              have : (E.any fun e => isUpE E e.1 e.1) = true := List.any_eq_true.2 ⟨_, hmem, h⟩
              rw [this]; rfl
            clear hcc hmem
            have hUj := hUp.out
            generalize hE : E[j] = x at d0 hbad
            obtain ⟨ch, pa⟩ := x
            simp only at d0 hbad
            replace hE := Lib.hid hE
            have hki2 : (j : Int) < (k : Int) := by omega
            have hk0 : (0 : Int) ≤ (j : Int) := by omega
            have hbw : b < wr.heap.size := Nat.lt_of_lt_of_le hb hX.out.size
            have hst : wr.cell? ⟨b, o + j * 2, none⟩ = some (.string ⟨ch.toArray⟩) ∧ Below w.heap.size w wr := ⟨d0, hX.out⟩
            have hstd : wr.drew.cell? ⟨b, o + j * 2, none⟩ = some (.string ⟨ch.toArray⟩) ∧ Below w.heap.size w wr.drew := ⟨d0, hX.out.drew⟩
            have hHas := fun (v : Value) W1 (hS : StS W1 v (aboveE E ch)) => has_any v (aboveE E ch) ch W1 hS (Nat.le_trans (upF_len _ _) hlE.out)
            have hco : (aboveE E ch).contains ch = isUpE E ch ch := rfl
            rw [hco] at hHas
            clear hco
            replace hbad := Lib.hid hbad
            replace hUj := Lib.hid hUj
            cases hu : isUpE E ch ch with
            | true =>
              have hr := Lib.hid (hbad.out hu)
              rw [hu] at hHas
              replace hHas := Lib.hid hHas
              replace hu := Lib.hid hu
              go_wp2_with fail
              go_region_held3 (fun W => W.cell? ⟨b, o + j * 2, none⟩ = some (.string ⟨ch.toArray⟩) ∧ Below w.heap.size w W)
                (first | assumption | exact hstd | exact hst | exact keepH (by assumption) hb (by assumption))
                (first
                  | (go_at_call 42; refine (hUj.out _ ch (And.right (by assumption))).mono ?_; rintro e w1 ⟨sv, rfl, hS, hb1⟩)
                  | (go_at_call 43; refine (hHas.out _ _ hS).mono ?_; rintro e w2 ⟨rfl, hb2⟩))
              all_goals go_wp2_with fail
              all_goals go_ret
              all_goals exact ⟨ret_bool hr.out.symm, belowT (belowT hstd.2 hb1) hb2⟩
            | false =>
              rw [hu] at hHas
              replace hHas := Lib.hid hHas
              replace hu := Lib.hid hu
              go_wp2_with fail
              go_region_held3 (fun W => W.cell? ⟨b, o + j * 2, none⟩ = some (.string ⟨ch.toArray⟩) ∧ Below w.heap.size w W)
                (first | assumption | exact hstd | exact hst | exact keepH (by assumption) hb (by assumption))
                (first
                  | (go_at_call 42; refine (hUj.out _ ch (And.right (by assumption))).mono ?_; rintro e w1 ⟨sv, rfl, hS, hb1⟩)
                  | (go_at_call 43; refine (hHas.out _ _ hS).mono ?_; rintro e w2 ⟨rfl, hb2⟩))
              all_goals go_wp2_with fail
              all_goals refine ⟨⟨j + 1, by omega, by simp, Lib.hid (fun i h hi => ?_), Lib.hid (belowT (belowT hstd.2 hb1) hb2)⟩, by simp [intOf]; omega⟩
              all_goals rcases Nat.lt_or_ge i j with h' | h'
              all_goals first | exact hno.out i h h' | (obtain rfl : i = j := by omega)
              all_goals rw [hE.out]
              all_goals exact hu.out
          · obtain rfl : j = k := by omega
            have hr := Lib.hid (show rightE E = true by
              rw [hre.out, all_pre (fun i hi => hno.out i hi (by have := hN.out; omega))]; rfl)
            have hki2 : ¬ (j : Int) < (j : Int) := by omega
            go_wp2
            go_ret
            exact ⟨ret_bool hr.out.symm, hX.out⟩
  · have hr := Lib.hid (bad_len (E := E) (by omega))
    have h64i : (64 : Int) < (N : Int) := by omega
    rw [hN]
    go_enter Try.func28, Try.ntmps28
    go_wp2
    go_ret
    exact ⟨ret_bool hr.out.symm, Below.refl _ _⟩
end Go.Proofs.Ytgodmppmiamhaaa
