/-
  Names, by the reference (heliographref02.Name). Each string shorter than the reach.
-/
import Derived.Test.YtadahlffdhgapaaDoorTxName
namespace Go.Proofs.YtadahlffdhgapaaDoor
set_option linter.unusedVariables false
set_option linter.unusedSimpArgs false
open Go.RowKit
attribute [local go_sem] mk_get
set_option maxHeartbeats 4000000 in
theorem refName_any (s : List UInt8) (w : World) (hs : s.length ≤ 140737488351232) :
    Calls Tryd.prog 35 #[.string ⟨s.toArray⟩] w fun e w' => e = .returned (.bool (nameP s)) ∧ w = w' := by
  go_enter Tryd.func35, Tryd.ntmps35
  go_wp2
  go_loop [3] (fun i => ∃ k : Nat, k ≤ s.length ∧ i = .int .i64 k ∧ Hid (nameTo s k)) (fun i => s.length - (intOf i).toNat)
  case atStart => exact ⟨0, Nat.zero_le _, rfl, fun i _ h => absurd h (Nat.not_lt_zero _)⟩
  case round =>
    obtain ⟨k, hk, rfl, HA⟩ := hrel
    by_cases hlt : k < s.length
    · rcases Nat.eq_zero_or_pos k with hk0 | hk0
      · subst hk0
        have z0 : ((0 : Nat) : Int) = 0 := rfl
        rw [z0]
        go_wp2
        all_goals first
          | (go_round
             case rel => exact ⟨1, by omega, by go_num, nameTo_snoc HA.out hlt (by simp only [nameAt, decide_eq_true_eq]; simp at *; omega)⟩
             case measure => simp [intOf]; omega)
          | (go_ret; exact ⟨ret_bool (nameP_no hlt (by simp only [nameAt, decide_eq_false_iff_not]; simp at *; omega)).symm, rfl⟩)
      · have hkz : ((k : Int) == 0) = false := by simp; omega
        go_wp2
        all_goals first
          | (go_round
             case rel => exact ⟨k + 1, by omega, by go_num, nameTo_snoc HA.out hlt (by simp only [nameAt, decide_eq_true_eq]; simp at *; omega)⟩
             case measure => simp [intOf]; omega)
          | (go_ret; exact ⟨ret_bool (nameP_no hlt (by simp only [nameAt, decide_eq_false_iff_not]; simp at *; omega)).symm, rfl⟩)
    · have hE : nameTo s s.length := fun i hi _ => HA.out i hi (by omega)
      have e32 : decide ((s.length : Int) ≤ 32) = decide (s.length ≤ 32) := by rw [decide_eq_decide]; omega
      have e1 : decide (1 ≤ (s.length : Int)) = !(s == []) := by cases s <;> simp; omega
      go_wp2
      all_goals (go_ret; refine ⟨ret_bool ?_, rfl⟩; simp [nameP, hE, e32] at *)
end Go.Proofs.YtadahlffdhgapaaDoor
