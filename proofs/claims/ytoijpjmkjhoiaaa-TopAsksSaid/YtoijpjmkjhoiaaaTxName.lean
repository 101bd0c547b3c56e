/-
  Names (package text). Each string shorter than the reach.
-/
import Derived.Test.YtoijpjmkjhoiaaaProg
import Derived.Test.YtoijpjmkjhoiaaaBase
import Derived.WalkKit
import Derived.LoopTactic
import Derived.Lib.Hide
import Derived.Outline
namespace Go.Proofs.Ytoijpjmkjhoiaaa
set_option linter.unusedVariables false
set_option linter.unusedSimpArgs false
open Go.RowKit
attribute [local go_sem] mk_get
/-- may a name have this byte at this place? -/
def nameAt (i c : Nat) : Bool := decide (97 ≤ c ∧ c ≤ 122 ∨ 65 ≤ c ∧ c ≤ 90 ∨ c = 95 ∨ 0 < i ∧ (48 ≤ c ∧ c ≤ 57 ∨ c = 45 ∨ c = 46 ∨ c = 58))
def nameTo (s : List UInt8) (k : Nat) : Prop := ∀ i (h : i < s.length), i < k → nameAt i (s[i]'h).toNat = true
instance (s : List UInt8) (k : Nat) : Decidable (nameTo s k) := inferInstanceAs (Decidable (∀ i (h : i < s.length), i < k → nameAt i (s[i]'h).toNat = true))
/-- may it be a name? -/
def nameP (s : List UInt8) : Bool := decide (nameTo s s.length) && !(s == []) && decide (s.length ≤ 32)
theorem nameTo_snoc {s : List UInt8} {k : Nat} (h : nameTo s k) (hk : k < s.length) (hc : nameAt k (s[k]'hk).toNat = true) : nameTo s (k + 1) := by
  intro i hi hik
  rcases Nat.lt_or_ge i k with h1 | h1
  · exact h i hi h1
  · have : i = k := by omega
    subst this
    exact hc
theorem nameP_no {s : List UInt8} {k : Nat} (hk : k < s.length) (hc : nameAt k (s[k]'hk).toNat = false) : nameP s = false := by
  have : ¬ nameTo s s.length := fun h => by rw [h k hk hk] at hc; cases hc
  simp [nameP, this]
end Go.Proofs.Ytoijpjmkjhoiaaa
