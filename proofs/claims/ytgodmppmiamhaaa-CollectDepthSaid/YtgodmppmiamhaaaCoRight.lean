/-
  Whether edges are right (Right), by the program. Condition: at most 1000 edges.
-/
import Derived.Test.YtgodmppmiamhaaaCoIdx
import Derived.BigQuiet
import Derived.Deep.QuietTactic
import Derived.Sort.Walk0
namespace Go.Proofs.Ytgodmppmiamhaaa
set_option linter.unusedVariables false
set_option linter.unusedSimpArgs false
open Go.RowKit Go.MapKept Go.Shelf
def okTo (E : Ats) (k : Nat) : Prop := (∀ i (h : i < E.length), i < k → (E[i]'h).1 ≠ [] ∧ (E[i]'h).2 ≠ []) ∧ ∀ i (h : i + 1 < E.length), i + 1 < k → (E[i]'(by omega)).1 < (E[i + 1]'h).1
theorem chain_sort : ∀ {E : Ats}, (∀ i (h : i + 1 < E.length), (E[i]'(by omega)).1 < (E[i + 1]'h).1) → sortE E
  | [], _ => by simp [sortE]
  | [e], _ => by simp [sortE]
  | e :: f :: r, h => by
    have hr : sortE (f :: r) := chain_sort (fun i hi => by have := h (i + 1) (by simpa using hi); simpa using this)
    have h0 : e.1 < f.1 := by have := h 0 (by simp); simpa using this
    refine List.pairwise_cons.2 ⟨fun x hx => ?_, hr⟩
    rcases List.mem_cons.1 hx with rfl | hx
    · exact h0
    · exact tl_trans h0 ((List.pairwise_cons.1 hr).1 x hx)
theorem okTo_all {E : Ats} (h : okTo E E.length) : fullE E = true ∧ sortE E := by
  refine ⟨?_, chain_sort (fun i hi => h.2 i hi hi)⟩
  unfold fullE
  rw [List.all_eq_true]
  intro x hx
  obtain ⟨i, hi, rfl⟩ := List.getElem_of_mem hx
  obtain ⟨h1, h2⟩ := h.1 i hi hi
  simp [h1, h2]
theorem bad_empty {E : Ats} {k : Nat} (h : k < E.length) (hb : (E[k]'h).1 = [] ∨ (E[k]'h).2 = []) : rightE E = false := by
  cases hr : rightE E with
  | false => rfl
  | true =>
    have := (right_parts hr).2.1
    unfold fullE at this
    rw [List.all_eq_true] at this
    have := this _ (List.getElem_mem h)
    rcases hb with h1 | h1 <;> simp [h1] at this
theorem bad_sort {E : Ats} {k : Nat} (h : k + 1 < E.length) (hb : ¬ (E[k]'(by omega)).1 < (E[k + 1]'h).1) : rightE E = false := by
  cases hr : rightE E with
  | false => rfl
  | true => exact absurd (sort_at (right_parts hr).2.2.1 (Nat.lt_succ_self k) h) hb
theorem bad_len {E : Ats} (h : ¬ E.length ≤ 64) : rightE E = false := by unfold rightE; simp [h]
theorem right_end {E : Ats} (hl : E.length ≤ 64) (h : okTo E E.length) : rightE E = !E.any fun e => isUpE E e.1 e.1 := by
  obtain ⟨h1, h2⟩ := okTo_all h
  unfold rightE
  rw [decide_eq_true hl, h1, decide_eq_true h2, List.all_eq_not_any_not]
  simp
set_option maxHeartbeats 1000000 in
theorem right1_any (v : Value) (E : Ats) (e : Txt × Txt) (Bl : Nat) (W : World) (hA : AtS W v E) (hl : E.length ≤ 1000) (hs : sortE E) (hbl : W.heap[Bl]? = some (.cells #[v] 23)) :
    Calls Try.prog 35 #[.agg #[.string ⟨e.1.toArray⟩, .string ⟨e.2.toArray⟩], .pointer (some ⟨Bl, 0, none⟩)] W fun r w' => r = .returned (.bool (isUpE E e.1 e.1)) ∧ Below W.heap.size W w' := by
  obtain ⟨lc, -, ll⟩ := obj_cells hbl
  have hu : Hid (∀ W1, Below W.heap.size W W1 → Calls Try.prog 30 #[v, .string ⟨e.1.toArray⟩, .string ⟨e.1.toArray⟩] W1 fun r w' => r = .returned (.bool (isUpE E e.1 e.1)) ∧ Below W1.heap.size W1 w') := Lib.hid fun W1 hb => isUp_any v E e.1 e.1 W1 (hA.below hb) hl hs
  obtain ⟨p, cap, rfl, -⟩ := hA
  obtain ⟨ch, pa⟩ := e
  simp only at hu ⊢
  clear hbl
  go_enter Try.func35, Try.ntmps35
  go_wp2_with (go_at_call 30; refine (hu.out _ (below1 _ _)).mono ?_; rintro e w1 ⟨rfl, hb1⟩; replace hb1 := Lib.hid hb1)
  go_ret
  exact ⟨rfl, below1t hb1.out⟩
theorem geq_run (a b : Txt) (W : World) : (binOp .geq 9 (.string ⟨a.toArray⟩) (.string ⟨b.toArray⟩)).run Try.prog W = .ok (.bool (!decide (a < b))) W := by
  simp [binOp, Op.stringOp, bytesLess_eq, Lib.toList_data]
theorem ix_prev (b o N cap k : Nat) (w : World) (h0 : 1 ≤ k) (hk : k ≤ N) : (Instr.indexAt 23 (.slice (some ⟨b, o, none⟩) N cap) (.int .i64 ((k : Int) - 1))).run Try.prog w = .ok (.pointer (some ⟨b, o + (k - 1) * 2, none⟩)) w := by
  have e : (k : Int) - 1 = ((k - 1 : Nat) : Int) := by omega
  have h1 : (0 : Int) ≤ ((k - 1 : Nat) : Int) := by omega
  have h2 : ((k - 1 : Nat) : Int) < (N : Int) := by omega
  rw [e]
  generalize k - 1 = j at *
  have h3 : j < N := by omega
  simp [go_sem, h1, h2, h3]
set_option maxHeartbeats 4000000 in
theorem coRight_any (v : Value) (E : Ats) (w : World) (hA : AtS w v E) (hl : E.length ≤ 1000) :
    Calls Try.prog 11 #[v] w fun e w' => e = .returned (.bool (rightE E)) ∧ Below w.heap.size w w' := by
  have eg := enters_of (P := Try.prog) Try.func35 (by kernel_rfl) rfl
  have hA0 := hA
  obtain ⟨ptr, cap, rfl, hc1, hc2, hat⟩ := hA
  obtain ⟨N, hN⟩ : ∃ N, E.length = N := ⟨_, rfl⟩
  by_cases h64 : N ≤ 64
  · rw [hN] at hA0 ⊢
    replace hA0 := Lib.hid hA0
    have hlE := Lib.hid hl
    have h64E : Hid (E.length ≤ 64) := Lib.hid (by omega)
    clear hl
    replace hN := Lib.hid hN
    replace hat := Lib.hid hat
    have h64i : ¬ (64 : Int) < (N : Int) := by omega
    go_enter Try.func11, Try.ntmps11
    go_wp2
    go_loopw [10] (fun s10 wr => ∃ k : Nat, k ≤ N ∧ s10 = .int .i64 k ∧ Hid (okTo E k) ∧ Hid (wr.heap[w.heap.size]? = some (.cells #[.slice ptr N cap] 23)) ∧ Hid (Below w.heap.size w wr)) (fun s10 _ => N - (intOf s10).toNat)
    case atStart => exact ⟨0, Nat.zero_le _, rfl, Lib.hid ⟨fun i _ hi => absurd hi (Nat.not_lt_zero _), fun i _ hi => absurd hi (Nat.not_lt_zero _)⟩, Lib.hid (heap_alloc w _).1, Lib.hid (below1 w _)⟩
    case round =>
      obtain ⟨k, hk, rfl, hok, hbl, hB⟩ := hrel
      obtain ⟨lc, -, ll⟩ := obj_cells hbl.out
      by_cases hlt : k < N
      · have hk3 : k < E.length := by have := hN.out; omega
        obtain ⟨b, o, rfl, hb, hcc⟩ := hat.out (by omega)
        obtain ⟨d0, d1⟩ := hcc k hk3
        have kc := fun (j : Nat) => hB.out.cell (p := ⟨b, j, none⟩) hb
        replace d0 := (kc _).trans d0
        replace d1 := (kc _).trans d1
        have hbe := Lib.hid (bad_empty hk3)
        have hprev : 0 < k → ∃ pc : Txt, wr.cell? ⟨b, o + (k - 1) * 2, none⟩ = some (.string ⟨pc.toArray⟩) ∧ (¬ pc < (E[k]'hk3).1 → rightE E = false) ∧ (pc < (E[k]'hk3).1 → okTo E k → (E[k]'hk3).1 ≠ [] → (E[k]'hk3).2 ≠ [] → okTo E (k + 1)) := by
          intro h0
          obtain ⟨j, rfl⟩ : ∃ j, k = j + 1 := ⟨k - 1, by omega⟩
          refine ⟨(E[j]'(by omega)).1, (kc _).trans (hcc j (by omega)).1, fun h => bad_sort hk3 h, fun h1 h2 h3 h4 => ⟨fun i hi hlt' => ?_, fun i hi hlt' => ?_⟩⟩
          · rcases Nat.lt_or_ge i (j + 1) with h' | h'
            · exact h2.1 i hi h'
            · obtain rfl : i = j + 1 := by omega
              exact ⟨h3, h4⟩
          · rcases Nat.lt_or_ge (i + 1) (j + 1) with h' | h'
            · exact h2.2 i hi h'
            · obtain rfl : i = j := by omega
              exact h1
        have hfirst : k = 0 → (E[k]'hk3).1 ≠ [] → (E[k]'hk3).2 ≠ [] → okTo E (k + 1) := by
          intro h0 h3 h4
          subst h0
          exact ⟨fun i hi hlt' => by obtain rfl : i = 0 := by omega
                                     exact ⟨h3, h4⟩, fun i hi hlt' => by omega⟩
        clear kc hcc
        generalize E[k] = x at d0 d1 hbe hprev hfirst
        obtain ⟨ch, pa⟩ := x
        simp only at d0 d1 hbe hprev hfirst
        replace hprev := Lib.hid hprev
        replace hfirst := Lib.hid hfirst
        have hki : (k : Int) < (N : Int) := by omega
        have hk0 : (0 : Int) ≤ (k : Int) := by omega
        have hbw : b < wr.heap.size := Nat.lt_of_lt_of_le hb hB.out.size
        by_cases c1 : ch = []
        · have hr := Lib.hid (hbe.out (.inl c1))
          subst c1
          go_wp2_with fail
          go_quiet (fail)
          go_wp2_with fail
          go_ret
          exact ⟨ret_bool hr.out.symm, belowN (belowA hB.out _) _⟩
        · have c1b : (ch == []) = false := by simpa using c1
          by_cases c2 : pa = []
          · have hr := Lib.hid (hbe.out (.inr c2))
            subst c2
            replace c1 := Lib.hid c1
            go_wp2_with fail
            go_quiet (fail)
            go_wp2_with fail
            go_ret
            exact ⟨ret_bool hr.out.symm, belowN (belowA hB.out _) _⟩
          · have c2b : (pa == []) = false := by simpa using c2
            by_cases h0 : k = 0
            · have hnx := Lib.hid (hfirst.out h0 c1 c2)
              have h0i : ¬ (0 : Int) < (k : Int) := by omega
              have h0d : decide (0 < k) = false := by simp; omega
              have h0n : ¬ 0 < k := by omega
              replace c1 := Lib.hid c1
              replace c2 := Lib.hid c2
              replace h0 := Lib.hid h0
              go_wp2_with fail
              go_quiet (fail)
              go_wp2_with fail
              refine ⟨⟨k + 1, by omega, by simp, hnx, Lib.hid (obj_alloc hbl.out), Lib.hid (belowN (belowA hB.out _) _)⟩, by simp [intOf]; omega⟩
            · obtain ⟨pc, dp, hbad, hnx⟩ := hprev.out (by omega)
              have h0n : 0 < k := by omega
              have h0d : decide (0 < k) = true := by simp; omega
              have p1 : IntKind.i64.wrap ((k : Int) - 1) = (k : Int) - 1 := wrap_small _ (by omega) (by omega)
              have p6 : 1 ≤ k := by omega
              have hix := fun W : World => ix_prev b o N cap k W p6 hk
              by_cases c3 : pc < ch
              · have hnx1 := Lib.hid (hnx c3 hok.out c1 c2)
                have c3b := geq_run pc ch
                rw [decide_eq_true c3] at c3b
                replace c1 := Lib.hid c1
                replace c2 := Lib.hid c2
                replace c3 := Lib.hid c3
                clear hnx hbad
                go_wp2_with fail
                go_quiet (fail)
                go_wp2_with fail
                refine ⟨⟨k + 1, by omega, by simp, hnx1, Lib.hid (obj_alloc hbl.out), Lib.hid (belowN (belowA hB.out _) _)⟩, by simp [intOf]; omega⟩
              · have hr := Lib.hid (hbad c3)
                have c3b := geq_run pc ch
                rw [decide_eq_false c3] at c3b
                replace c1 := Lib.hid c1
                replace c2 := Lib.hid c2
                replace c3 := Lib.hid c3
                clear hnx hbad
                go_wp2_with fail
                go_quiet (fail)
                go_wp2_with fail
                go_ret
                exact ⟨ret_bool hr.out.symm, belowN (belowA hB.out _) _⟩
      · obtain rfl : k = N := by omega
        have hki : ¬ (k : Int) < (k : Int) := by omega
        have hE2 := okTo_all (E := E) (by rw [hN.out]; exact hok.out)
        have hre := right_end h64E.out (by rw [hN.out]; exact hok.out)
        have hA1 : AtS wr (.slice ptr k cap) E := hA0.out.below hB.out
        have hcn : Hid (∀ W1, Below wr.heap.size wr W1 → Calls Try.prog 34 #[.slice ptr k cap, .func (.func 35) #[] #[.pointer (some ⟨w.heap.size, 0, none⟩)]] W1 fun e w' => e = .returned (.bool (E.any fun e => isUpE E e.1 e.1)) ∧ Below W1.heap.size W1 w') := Lib.hid fun W1 hb =>
          contains_any _ E W1 (hA1.below hb) hlE.out 35 _ _ eg (fun W2 e hb2 => right1_any _ E e w.heap.size W2 ((hA1.below hb).below hb2) hlE.out hE2.2 ((hb2.block _ (Nat.lt_of_lt_of_le ll hb.size)).trans ((hb.block _ ll).trans hbl.out)))
        replace hre := Lib.hid hre
        clear hA1 hE2
        go_wp2_with (go_at_call 34; refine (hcn.out _ (Below.refl _ _)).mono ?_; rintro e w1 ⟨rfl, hb1⟩; replace hb1 := Lib.hid hb1)
        go_ret
        exact ⟨ret_bool hre.out.symm, belowT hB.out hb1.out⟩
  · have hr := Lib.hid (bad_len (E := E) (by omega))
    have h64i : (64 : Int) < (N : Int) := by omega
    rw [hN]
    go_enter Try.func11, Try.ntmps11
    go_wp2
    go_ret
    exact ⟨ret_bool hr.out.symm, below1 _ _⟩
end Go.Proofs.Ytgodmppmiamhaaa
