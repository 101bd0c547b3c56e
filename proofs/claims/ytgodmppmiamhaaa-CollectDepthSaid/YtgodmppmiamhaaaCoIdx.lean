/-
  Whether one of some edges meets what a closure asks (slices.IndexFunc, ContainsFunc); those that do (children). Condition: at most 1000 edges.
-/
import Derived.Test.YtgodmppmiamhaaaCoIsUp
import Derived.Maps.AppendAt
import Derived.OwnWalk
namespace Go.Proofs.Ytgodmppmiamhaaa
set_option linter.unusedVariables false
set_option linter.unusedSimpArgs false
open Go.RowKit Go.MapKept Go.Shelf
theorem any_take {E : Ats} {q : Txt × Txt → Bool} {k : Nat} (h : ∀ i (h : i < E.length), i < k → q (E[i]'h) = false) (hk : E.length ≤ k) : E.any q = false := by
  rw [List.any_eq_false]
  intro x hx
  obtain ⟨i, hi, rfl⟩ := List.getElem_of_mem hx
  simp [h i hi (by omega)]
set_option maxHeartbeats 1000000 in
theorem indexFunc_any (v : Value) (E : Ats) (w : World) (hA : AtS w v E) (hl : E.length ≤ 1000) (g : Nat) (cb : Array Value) (q : Txt × Txt → Bool) (eg : ∀ args w, (callFunc g args).run Try.prog w = .ok (.enter g args) w)
    (hq : ∀ W e, Below w.heap.size w W → Calls Try.prog g (#[.agg #[.string ⟨e.1.toArray⟩, .string ⟨e.2.toArray⟩]] ++ cb) W fun r w' => r = .returned (.bool (q e)) ∧ Below W.heap.size W w') :
    Calls Try.prog 52 #[v, .func (.func g) #[] cb] w fun e w' => ∃ i : Int, e = .returned (.int .i64 i) ∧ decide (0 ≤ i) = E.any q ∧ Below w.heap.size w w' := by
  obtain ⟨ptr, cap, rfl, hc1, hc2, hat⟩ := hA
  obtain ⟨N, hN⟩ : ∃ N, E.length = N := ⟨_, rfl⟩
  have hN1 : N ≤ 1000 := by omega
  rw [hN]
  replace hN := Lib.hid hN
  replace hq := Lib.hid hq
  replace hat := Lib.hid hat
  go_enter Try.func52, Try.ntmps52
  go_wp2
  go_loopw [8] (fun s8 wr => ∃ k : Nat, k ≤ N ∧ s8 = .int .i64 k ∧ Hid (∀ i (h : i < E.length), i < k → q (E[i]'h) = false) ∧ Hid (Below w.heap.size w wr)) (fun s8 _ => N - (intOf s8).toNat)
  case atStart => exact ⟨0, Nat.zero_le _, rfl, Lib.hid (fun i _ hi => absurd hi (Nat.not_lt_zero _)), Lib.hid (Below.refl _ _)⟩
  case round =>
    obtain ⟨k, hk, rfl, hno, hB⟩ := hrel
    by_cases hlt : k < N
    · have hk3 : k < E.length := by have := hN.out; omega
      obtain ⟨b, o, rfl, hb, hcc⟩ := hat.out (by omega)
      obtain ⟨d0, d1⟩ := hcc k hk3
      have kc := fun (j : Nat) => hB.out.cell (p := ⟨b, j, none⟩) hb
      replace d0 := (kc _).trans d0
      replace d1 := (kc _).trans d1
      clear kc hcc
      have hqk := hq.out wr (E[k]'hk3) hB.out
      have hany := List.getElem_mem hk3
      generalize hE : E[k] = x at d0 d1 hqk hany
      obtain ⟨ch, pa⟩ := x
      simp only at d0 d1 hqk
      replace hE := Lib.hid hE
      have hki : (k : Int) < (N : Int) := by omega
      have hk0 : (0 : Int) ≤ (k : Int) := by omega
      have hbw : b < wr.heap.size := Nat.lt_of_lt_of_le hb hB.out.size
      cases hx : q (ch, pa)
      · rw [hx] at hqk
        replace hqk := Lib.hid hqk
        go_wp2_with (go_at_fn g; refine hqk.out.mono ?_; rintro e w1 ⟨rfl, hb1⟩; replace hb1 := Lib.hid hb1)
        go_roundw
        case rel =>
          refine ⟨k + 1, by omega, by simp, Lib.hid (fun i h hi => ?_), Lib.hid (belowT hB.out hb1.out)⟩
          rcases Nat.lt_or_ge i k with h' | h'
          · exact hno.out i h h'
          · obtain rfl : i = k := by omega
            rw [hE.out]; exact hx
        case measure => simp [intOf]; omega
      · rw [hx] at hqk
        replace hqk := Lib.hid hqk
        have hA1 : Hid (E.any q = true) := Lib.hid (List.any_eq_true.2 ⟨_, hany, hx⟩)
        go_wp2_with (go_at_fn g; refine hqk.out.mono ?_; rintro e w1 ⟨rfl, hb1⟩; replace hb1 := Lib.hid hb1)
        go_ret
        exact ⟨k, rfl, by rw [hA1.out]; simp, belowT hB.out hb1.out⟩
    · have hA1 : Hid (E.any q = false) := Lib.hid (any_take hno.out (by have := hN.out; omega))
      have hki : ¬ (k : Int) < (N : Int) := by omega
      go_wp2
      go_ret
      exact ⟨-1, rfl, by rw [hA1.out]; decide, hB.out⟩
theorem contains_any (v : Value) (E : Ats) (w : World) (hA : AtS w v E) (hl : E.length ≤ 1000) (g : Nat) (cb : Array Value) (q : Txt × Txt → Bool) (eg : ∀ args w, (callFunc g args).run Try.prog w = .ok (.enter g args) w)
    (hq : ∀ W e, Below w.heap.size w W → Calls Try.prog g (#[.agg #[.string ⟨e.1.toArray⟩, .string ⟨e.2.toArray⟩]] ++ cb) W fun r w' => r = .returned (.bool (q e)) ∧ Below W.heap.size W w') :
    Calls Try.prog 34 #[v, .func (.func g) #[] cb] w fun e w' => e = .returned (.bool (E.any q)) ∧ Below w.heap.size w w' := by
  have hb := Lib.hid (indexFunc_any v E w hA hl g cb q eg hq)
  obtain ⟨p, cap, rfl, -⟩ := hA
  clear hq
  go_enter Try.func34, Try.ntmps34
  go_wp2_with (go_at_call 52; refine hb.out.mono ?_; rintro e w1 ⟨i, rfl, h1, h2⟩; replace h1 := Lib.hid h1; replace h2 := Lib.hid h2)
  go_ret
  exact ⟨by rw [← h1.out]; rfl, h2.out⟩
end Go.Proofs.Ytgodmppmiamhaaa
