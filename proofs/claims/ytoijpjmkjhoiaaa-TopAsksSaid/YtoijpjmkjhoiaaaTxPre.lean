/-
  strings.HasPrefix. No condition but the reach.
-/
import Derived.Test.YtoijpjmkjhoiaaaTxName
namespace Go.Proofs.Ytoijpjmkjhoiaaa
set_option linter.unusedVariables false
set_option linter.unusedSimpArgs false
open Go.RowKit
attribute [local go_sem] ext0
/-- does a text begin so? -/
def preP (s p : List UInt8) : Bool := decide (p.length ≤ s.length) && (s.take p.length == p)
theorem hasPrefixI_any (s p : List UInt8) (w : World) (hs : s.length ≤ 140737488351232) (hp : p.length ≤ 140737488351232) :
    Calls Try.prog 90 #[.string ⟨s.toArray⟩, .string ⟨p.toArray⟩] w fun e w' => e = .returned (.bool (preP s p)) ∧ w = w' := by
  by_cases h : p.length ≤ s.length
  · have e1 : preP s p = (s.take p.length == p) := by simp [preP, h]
    rw [e1]
    have hb : decide ((p.length : Int) ≤ (s.length : Int)) = true := by simp; omega
    go_enter Try.func90, Try.ntmps90
    go_wp2
    all_goals (go_ret; refine ⟨ret_bool ?_, rfl⟩; simp_all)
  · have e1 : preP s p = false := by simp [preP, h]
    rw [e1]
    have hb : decide ((p.length : Int) ≤ (s.length : Int)) = false := by simp; omega
    go_enter Try.func90, Try.ntmps90
    go_wp2
    go_ret
    exact ⟨rfl, rfl⟩
theorem hasPrefix_any (s p : List UInt8) (w : World) (hs : s.length ≤ 140737488351232) (hp : p.length ≤ 140737488351232) :
    Calls Try.prog 78 #[.string ⟨s.toArray⟩, .string ⟨p.toArray⟩] w fun e w' => e = .returned (.bool (preP s p)) ∧ w = w' := by
  go_enter Try.func78, Try.ntmps78
  go_wp2_with (go_at_call 90; refine (hasPrefixI_any s p _ hs hp).mono ?_; rintro e w1 ⟨rfl, rfl⟩)
  go_ret
  exact ⟨rfl, rfl⟩
end Go.Proofs.Ytoijpjmkjhoiaaa
