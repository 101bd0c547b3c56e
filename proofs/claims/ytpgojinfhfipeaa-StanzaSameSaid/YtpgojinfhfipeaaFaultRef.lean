/-
  What the reference's functions on conditions compute: names, types. No condition but that the number is one of its kind.
-/
import Derived.Test.YtpgojinfhfipeaaFaultWalks
namespace Go.Proofs.Ytpgojinfhfipeaa
set_option linter.unusedVariables false
set_option linter.unusedSimpArgs false
open Go.RowKit
theorem name0_any (c : Int) (w : World) :
    Calls Try.prog 21 #[.int .i64 c] w fun e w' => e = .returned (.string ⟨(nameL c).toArray⟩) ∧ w = w' := by
  cases hk : knownB c
  · rw [nameL_un hk]
    have n1 : ¬ c = 1 := by simp [knownB] at hk; omega
    have n2 : ¬ c = 2 := by simp [knownB] at hk; omega
    have n3 : ¬ c = 3 := by simp [knownB] at hk; omega
    have n4 : ¬ c = 4 := by simp [knownB] at hk; omega
    have n5 : ¬ c = 5 := by simp [knownB] at hk; omega
    have n6 : ¬ c = 6 := by simp [knownB] at hk; omega
    have n7 : ¬ c = 7 := by simp [knownB] at hk; omega
    have n8 : ¬ c = 8 := by simp [knownB] at hk; omega
    have n9 : ¬ c = 9 := by simp [knownB] at hk; omega
    have n10 : ¬ c = 10 := by simp [knownB] at hk; omega
    clear hk
    go_enter Try.func21, Try.ntmps21
    go_wp2
    go_ret
    exact ⟨rfl, rfl⟩
  · obtain rfl | rfl | rfl | rfl | rfl | rfl | rfl | rfl | rfl | rfl := known_cases hk
    all_goals go_enter Try.func21, Try.ntmps21
    all_goals go_wp2
    all_goals go_ret
    all_goals exact ⟨rfl, rfl⟩
theorem type0_any (c : Int) (w : World) :
    Calls Try.prog 35 #[.int .i64 c] w fun e w' => e = .returned (.string ⟨(typeL c).toArray⟩) ∧ w = w' := by
  cases hk : knownB c
  · rw [typeL_un hk]
    have n1 : ¬ c = 1 := by simp [knownB] at hk; omega
    have n2 : ¬ c = 2 := by simp [knownB] at hk; omega
    have n3 : ¬ c = 3 := by simp [knownB] at hk; omega
    have n4 : ¬ c = 4 := by simp [knownB] at hk; omega
    have n5 : ¬ c = 5 := by simp [knownB] at hk; omega
    have n6 : ¬ c = 6 := by simp [knownB] at hk; omega
    have n7 : ¬ c = 7 := by simp [knownB] at hk; omega
    have n8 : ¬ c = 8 := by simp [knownB] at hk; omega
    have n9 : ¬ c = 9 := by simp [knownB] at hk; omega
    have n10 : ¬ c = 10 := by simp [knownB] at hk; omega
    clear hk
    go_enter Try.func35, Try.ntmps35
    go_wp2
    go_ret
    exact ⟨rfl, rfl⟩
  · obtain rfl | rfl | rfl | rfl | rfl | rfl | rfl | rfl | rfl | rfl := known_cases hk
    all_goals go_enter Try.func35, Try.ntmps35
    all_goals go_wp2
    all_goals go_ret
    all_goals exact ⟨rfl, rfl⟩
end Go.Proofs.Ytpgojinfhfipeaa
