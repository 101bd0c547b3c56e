/-
  The reference's Same of edges and Right. Condition: at most 1000 edges.
-/
import Derived.Test.YtgodmppmiamhaaaCoRef
import Derived.Deep.RegionHeld3
import Derived.Laws.StructEq
namespace Go.Proofs.Ytgodmppmiamhaaa
set_option linter.unusedVariables false
set_option linter.unusedSimpArgs false
open Go.RowKit Go.MapKept Go.Shelf
theorem neqE_run (a b c d : Txt) (W : World) : (binOp .neq 58 (.agg #[.string ⟨a.toArray⟩, .string ⟨b.toArray⟩]) (.agg #[.string ⟨c.toArray⟩, .string ⟨d.toArray⟩])).run Try.prog W = .ok (.bool (!decide ((a, b) = (c, d)))) W := by
  have ht : Try.prog.underlying 58 = some (.struct (Try.prog.fieldsOf 58)) := by kernel_rfl
  have hp : Try.prog.stoodInHeld 58 = false := by kernel_rfl
  have hF : ∃ f1 f2, (Try.prog.fieldsOf 58).toList = [f1, f2] ∧ f1.name ≠ "_" ∧ f2.name ≠ "_" ∧ f1.type = 9 ∧ f2.type = 9 ∧ f1.offset = 0 ∧ f2.offset = 1 := by
    refine ⟨(Try.prog.fieldsOf 58)[0]!, (Try.prog.fieldsOf 58)[1]!, ?_⟩
    refine ⟨by kernel_rfl, ?_⟩
    exact ⟨of_decide_eq_true (by kernel_rfl), of_decide_eq_true (by kernel_rfl), by kernel_rfl, by kernel_rfl, by kernel_rfl, by kernel_rfl⟩
  obtain ⟨f1, f2, hl, n1, n2, t1, t2, o1, o2⟩ := hF
  have hS := Try.underlying9
  rw [run_neq_struct, run_equalIn_agg (d := 9999) (ht := ht) (hp := hp), hl]
  simp [Op.eqFields, n1, n2, t1, t2, o1, o2, go_sem, hS]
  by_cases h1 : a = c
  · by_cases h2 : b = d <;> simp [h1, h2]
  · simp [h1]
set_option maxHeartbeats 1000000 in
theorem sameE_any (v1 v2 : Value) (a b : Ats) (w : World) (hA : AtS w v1 a) (hB0 : AtS w v2 b) (hl : a.length ≤ 1000) :
    Calls Try.prog 27 #[v1, v2] w fun e w' => e = .returned (.bool (decide (a = b))) ∧ Below w.heap.size w w' := by
  obtain ⟨p1, c1, rfl, h11, h12, hat1⟩ := hA
  obtain ⟨p2, c2, rfl, h21, h22, hat2⟩ := hB0
  have hb63 : (b.length : Int) ≤ 9223372036854775807 := by unfold maxLen at h22; omega
  by_cases hab : a.length = b.length
  · obtain ⟨N, hN⟩ : ∃ N, a.length = N := ⟨_, rfl⟩
    have hN2 : b.length = N := by omega
    rw [hN2, hN]
    rw [hN] at hl
    replace hN := Lib.hid hN
    replace hN2 := Lib.hid hN2
    replace hat1 := Lib.hid hat1
    replace hat2 := Lib.hid hat2
    clear h11 h12 h21 h22 hab hb63
    go_enter Try.func27, Try.ntmps27
    go_wp2
    go_loopw [5] (fun s5 wr => ∃ k : Nat, k ≤ N ∧ s5 = .int .i64 k ∧ Hid (∀ j (h1 : j < a.length) (h2 : j < b.length), j < k → a[j]'h1 = b[j]'h2) ∧ Hid (Below w.heap.size w wr)) (fun s5 _ => N - (intOf s5).toNat)
    case atStart => exact ⟨0, Nat.zero_le _, rfl, Lib.hid (fun i _ _ hi => absurd hi (Nat.not_lt_zero _)), Lib.hid (Below.refl _ _)⟩
    case round =>
      obtain ⟨k, hk, rfl, hno, hB⟩ := hrel
      by_cases hlt : k < N
      · have hk1 : k < a.length := by have := hN.out; omega
        have hk2 : k < b.length := by have := hN2.out; omega
        obtain ⟨b1, o1, rfl, hb1, hcc1⟩ := hat1.out (by omega)
        obtain ⟨b2, o2, rfl, hb2, hcc2⟩ := hat2.out (by omega)
        have d1 := (hB.out.cell (p := ⟨b1, o1 + k * 2, none⟩) hb1).trans (hcc1 k hk1).1
        have d2 := (hB.out.cell (p := ⟨b1, o1 + k * 2 + 1, none⟩) hb1).trans (hcc1 k hk1).2
        have e1 := (hB.out.cell (p := ⟨b2, o2 + k * 2, none⟩) hb2).trans (hcc2 k hk2).1
        have e2 := (hB.out.cell (p := ⟨b2, o2 + k * 2 + 1, none⟩) hb2).trans (hcc2 k hk2).2
        clear hcc1 hcc2
        have hneq : a[k]'hk1 ≠ b[k]'hk2 → decide (a = b) = false := fun h => by
          rw [decide_eq_false_iff_not]
          intro e
          subst e
          exact h rfl
        generalize hE1 : a[k] = x at d1 d2 hneq
        generalize hE2 : b[k] = y at e1 e2 hneq
        obtain ⟨x1, x2⟩ := x
        obtain ⟨y1, y2⟩ := y
        simp only at d1 d2 e1 e2
        replace hE1 := Lib.hid hE1
        replace hE2 := Lib.hid hE2
        have hki : (k : Int) < (N : Int) := by omega
        have hk0 : (0 : Int) ≤ (k : Int) := by omega
        have hbw1 : b1 < wr.heap.size := Nat.lt_of_lt_of_le hb1 hB.out.size
        have hbw2 : b2 < wr.heap.size := Nat.lt_of_lt_of_le hb2 hB.out.size
        have hq := neqE_run x1 x2 y1 y2
        by_cases hx : (x1, x2) = (y1, y2)
        · clear hneq
          rw [decide_eq_true hx] at hq
          replace hx := Lib.hid hx
          go_wp2_with fail
          go_quiet (fail)
          go_wp2_with fail
          go_roundw
          case rel =>
            refine ⟨k + 1, by omega, by simp, Lib.hid (fun i h1 h2 hi => ?_), Lib.hid (belowN hB.out _)⟩
            rcases Nat.lt_or_ge i k with h' | h'
            · exact hno.out i h1 h2 h'
            · obtain rfl : i = k := by omega
              rw [hE1.out, hE2.out, hx.out]
          case measure => simp [intOf]; omega
        · have hr := Lib.hid (hneq hx)
          rw [decide_eq_false hx] at hq
          clear hneq
          replace hx := Lib.hid hx
          go_wp2_with fail
          go_quiet (fail)
          go_wp2_with fail
          go_ret
          rw [hr.out]
          exact ⟨rfl, (belowN hB.out _)⟩
      · obtain rfl : k = N := by omega
        have hr := Lib.hid (show decide (a = b) = true by
          rw [decide_eq_true_iff]
          exact same_pre (by rw [hN.out, hN2.out]) (fun j h1 h2 => hno.out j h1 h2 (by have := hN.out; omega)))
        have hki : ¬ (k : Int) < (k : Int) := by omega
        go_wp2
        go_ret
        rw [hr.out]
        exact ⟨rfl, hB.out⟩
  · have hr := Lib.hid (show decide (a = b) = false by rw [decide_eq_false_iff_not]; intro e; exact hab (by rw [e]))
    have hne : ¬ (a.length : Int) = (b.length : Int) := by omega
    go_enter Try.func27, Try.ntmps27
    go_wp2
    go_ret
    rw [hr.out]
    exact ⟨rfl, Below.refl _ _⟩
end Go.Proofs.Ytgodmppmiamhaaa
