/-
  Names (package text). Each string shorter than the reach.
-/
import Derived.Test.YtadahlffdhgapaaDoorProg
import Derived.Test.YtadahlffdhgapaaDoorBase
import Derived.WalkKit
import Derived.LoopTactic
import Derived.Lib.Hide
import Derived.Outline
namespace Go.Proofs.YtadahlffdhgapaaDoor
set_option linter.unusedVariables false
set_option linter.unusedSimpArgs false
open Go.RowKit
attribute [local go_sem] mk_get
/-- may a name have this byte at this place? -/
def nameAt (i c : Nat) : Bool := decide (97 ≤ c ∧ c ≤ 122 ∨ 65 ≤ c ∧ c ≤ 90 ∨ c = 95 ∨ 0 < i ∧ (48 ≤ c ∧ c ≤ 57 ∨ c = 45 ∨ c = 46 ∨ c = 58))
def nameTo (s : List UInt8) (k : Nat) : Prop := ∀ i (h : i < s.length), i < k → nameAt i (s[i]'h).toNat = true
instance (s : List UInt8) (k : Nat) : Decidable (nameTo s k) := inferInstanceAs (Decidable (∀ i (h : i < s.length), i < k → nameAt i (s[i]'h).toNat = true))
/-- may it be a name? -/
def nameP (s : List UInt8) : Bool := decide (nameTo s s.length) && !(s == []) && decide (s.length ≤ 32)
theorem nameTo_snoc {s : List UInt8} {k : Nat} (h : nameTo s k) (hk : k < s.length) (hc : nameAt k (s[k]'hk).toNat = true) : nameTo s (k + 1) := by
  intro i hi hik
  rcases Nat.lt_or_ge i k with h1 | h1
  · exact h i hi h1
  · have : i = k := by omega
    subst this
    exact hc
theorem nameP_no {s : List UInt8} {k : Nat} (hk : k < s.length) (hc : nameAt k (s[k]'hk).toNat = false) : nameP s = false := by
  have : ¬ nameTo s s.length := fun h => by rw [h k hk hk] at hc; cases hc
  simp [nameP, this]
set_option maxHeartbeats 1000000 in
theorem textName_any (s : List UInt8) (w : World) (hs : s.length ≤ 140737488351232) :
    Calls Tryd.prog 40 #[.string ⟨s.toArray⟩] w fun e w' => e = .returned (.bool (nameP s)) ∧ w = w' := by
  go_enter Tryd.func40, Tryd.ntmps40
  go_wp2
  go_loop [7] (fun i => ∃ k : Nat, k ≤ s.length ∧ i = .int .i64 k ∧ Hid (nameTo s k)) (fun i => s.length - (intOf i).toNat)
  case atStart => exact ⟨0, Nat.zero_le _, rfl, fun i _ h => absurd h (Nat.not_lt_zero _)⟩
  case round =>
    obtain ⟨k, hk, rfl, HA⟩ := hrel
    by_cases hlt : k < s.length
    · go_wp2
      all_goals first
        | (go_round
           case rel => exact ⟨k + 1, by omega, by go_num, nameTo_snoc HA.out hlt (by simp only [nameAt, decide_eq_true_eq]; simp at *; omega)⟩
           case measure => simp [intOf]; omega)
        | (go_ret; exact ⟨ret_bool (nameP_no hlt (by simp only [nameAt, decide_eq_false_iff_not]; simp at *; omega)).symm, rfl⟩)
    · have hE : nameTo s s.length := fun i hi _ => HA.out i hi (by omega)
      have e32 : decide ((s.length : Int) ≤ 32) = decide (s.length ≤ 32) := by rw [decide_eq_decide]; omega
      go_wp2
      all_goals (go_ret; refine ⟨ret_bool ?_, rfl⟩; simp [nameP, hE, e32] at *)
end Go.Proofs.YtadahlffdhgapaaDoor
