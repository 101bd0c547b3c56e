/-
  The name of a kind's element, and the types of a kind, by the program. No condition.
-/
import Derived.Test.YtcfkegfddiglcaaDoorStPure
namespace Go.Proofs.YtcfkegfddiglcaaDoor
set_option linter.unusedVariables false
set_option linter.unusedSimpArgs false
open Go.RowKit Go.MapKept
theorem nm0 (w : World) : (Instr.index 55 (.agg #[.string ⟨#[]⟩, .string ⟨#[105, 113]⟩, .string ⟨#[109, 101, 115, 115, 97, 103, 101]⟩, .string ⟨#[112, 114, 101, 115, 101, 110, 99, 101]⟩]) (.int .u8 0)).run Tryd.prog w = .ok (.string ⟨#[]⟩) w := by kernel_rfl
theorem nm1 (w : World) : (Instr.index 55 (.agg #[.string ⟨#[]⟩, .string ⟨#[105, 113]⟩, .string ⟨#[109, 101, 115, 115, 97, 103, 101]⟩, .string ⟨#[112, 114, 101, 115, 101, 110, 99, 101]⟩]) (.int .u8 1)).run Tryd.prog w = .ok (.string ⟨#[105, 113]⟩) w := by kernel_rfl
theorem nm2 (w : World) : (Instr.index 55 (.agg #[.string ⟨#[]⟩, .string ⟨#[105, 113]⟩, .string ⟨#[109, 101, 115, 115, 97, 103, 101]⟩, .string ⟨#[112, 114, 101, 115, 101, 110, 99, 101]⟩]) (.int .u8 2)).run Tryd.prog w = .ok (.string ⟨#[109, 101, 115, 115, 97, 103, 101]⟩) w := by kernel_rfl
theorem nm3 (w : World) : (Instr.index 55 (.agg #[.string ⟨#[]⟩, .string ⟨#[105, 113]⟩, .string ⟨#[109, 101, 115, 115, 97, 103, 101]⟩, .string ⟨#[112, 114, 101, 115, 101, 110, 99, 101]⟩]) (.int .u8 3)).run Tryd.prog w = .ok (.string ⟨#[112, 114, 101, 115, 101, 110, 99, 101]⟩) w := by kernel_rfl
theorem nmB (w : World) : (Instr.build 55 #[(0, .string ⟨#[]⟩), (1, .string ⟨#[105, 113]⟩), (2, .string ⟨#[109, 101, 115, 115, 97, 103, 101]⟩), (3, .string ⟨#[112, 114, 101, 115, 101, 110, 99, 101]⟩)]).run Tryd.prog w = .ok (.agg #[.string ⟨#[]⟩, .string ⟨#[105, 113]⟩, .string ⟨#[109, 101, 115, 115, 97, 103, 101]⟩, .string ⟨#[112, 114, 101, 115, 101, 110, 99, 101]⟩]) w := by kernel_rfl
theorem nmM (k : Nat) (h : 3 ≤ k) (w : World) : (Builtin.min_ #[23, 23] 23 #[.int .u8 (k : Int), .int .u8 3]).run Tryd.prog w = .ok (.int .u8 3) w := by
  unfold Builtin.min_ Builtin.min2
  simp [go_sem]
  omega
theorem nmm0 (w : World) : (Builtin.min_ #[23, 23] 23 #[.int .u8 0, .int .u8 3]).run Tryd.prog w = .ok (.int .u8 0) w := by kernel_rfl
theorem nmm1 (w : World) : (Builtin.min_ #[23, 23] 23 #[.int .u8 1, .int .u8 3]).run Tryd.prog w = .ok (.int .u8 1) w := by kernel_rfl
theorem nmm2 (w : World) : (Builtin.min_ #[23, 23] 23 #[.int .u8 2, .int .u8 3]).run Tryd.prog w = .ok (.int .u8 2) w := by kernel_rfl
theorem stName_any (k : Nat) (w : World) :
    Calls Tryd.prog 9 #[.int .u8 k] w fun e w' => e = .returned (.string ⟨(nameK k).toArray⟩) ∧ w = w' := by
  by_cases h : 3 ≤ k
  · have hM := nmM k h
    have i3 := nm3
    have hB := nmB
    have e : nameK k = preL := by unfold nameK; rw [if_neg (by omega), if_neg (by omega), if_neg (by omega)]
    rw [e]
    clear e
    go_enter Tryd.func9, Tryd.ntmps9
    go_wp2
    go_ret
    exact ⟨rfl, rfl⟩
  · have m0 := nmm0
    have m1 := nmm1
    have m2 := nmm2
    obtain rfl | rfl | rfl : k = 0 ∨ k = 1 ∨ k = 2 := by omega
    all_goals have i0 := nm0
    all_goals have i1 := nm1
    all_goals have i2 := nm2
    all_goals have hB := nmB
    all_goals go_enter Tryd.func9, Tryd.ntmps9
    all_goals go_wp2
    all_goals go_ret
    all_goals exact ⟨rfl, rfl⟩
theorem typed_any (k : Nat) (t : List UInt8) (w : World) :
    Calls Tryd.prog 25 #[.int .u8 k, .string ⟨t.toArray⟩] w fun e w' => e = .returned (.bool (typedB k t)) ∧ w = w' := by
  by_cases h1 : k = 1
  · subst h1
    by_cases g0 : t = [103, 101, 116]
    · subst g0
      go_enter Tryd.func25, Tryd.ntmps25
      go_wp2
      all_goals go_ret
      all_goals exact ⟨by simp [typedB, resL, errL], rfl⟩
    have e0 : (t == [103, 101, 116]) = false := by simpa using g0
    by_cases g1 : t = [115, 101, 116]
    · subst g1
      go_enter Tryd.func25, Tryd.ntmps25
      go_wp2
      all_goals go_ret
      all_goals exact ⟨by simp [typedB, resL, errL], rfl⟩
    have e1 : (t == [115, 101, 116]) = false := by simpa using g1
    by_cases g2 : t = [114, 101, 115, 117, 108, 116]
    · subst g2
      go_enter Tryd.func25, Tryd.ntmps25
      go_wp2
      all_goals go_ret
      all_goals exact ⟨by simp [typedB, resL, errL], rfl⟩
    have e2 : (t == [114, 101, 115, 117, 108, 116]) = false := by simpa using g2
    by_cases g3 : t = [101, 114, 114, 111, 114]
    · subst g3
      go_enter Tryd.func25, Tryd.ntmps25
      go_wp2
      all_goals go_ret
      all_goals exact ⟨by simp [typedB, resL, errL], rfl⟩
    have e3 : (t == [101, 114, 114, 111, 114]) = false := by simpa using g3
    go_enter Tryd.func25, Tryd.ntmps25
    go_wp2
    all_goals go_ret
    all_goals exact ⟨by simp [typedB, resL, errL, *], rfl⟩
  by_cases h3 : k = 3
  · subst h3
    by_cases g0 : t = [117, 110, 97, 118, 97, 105, 108, 97, 98, 108, 101]
    · subst g0
      go_enter Tryd.func25, Tryd.ntmps25
      go_wp2
      all_goals go_ret
      all_goals exact ⟨by simp [typedB, resL, errL], rfl⟩
    have e0 : (t == [117, 110, 97, 118, 97, 105, 108, 97, 98, 108, 101]) = false := by simpa using g0
    by_cases g1 : t = [101, 114, 114, 111, 114]
    · subst g1
      go_enter Tryd.func25, Tryd.ntmps25
      go_wp2
      all_goals go_ret
      all_goals exact ⟨by simp [typedB, resL, errL], rfl⟩
    have e1 : (t == [101, 114, 114, 111, 114]) = false := by simpa using g1
    by_cases g2 : t = ([] : List UInt8)
    · subst g2
      go_enter Tryd.func25, Tryd.ntmps25
      go_wp2
      all_goals go_ret
      all_goals exact ⟨by simp [typedB, resL, errL], rfl⟩
    have e2 : (t == []) = false := by simpa using g2
    go_enter Tryd.func25, Tryd.ntmps25
    go_wp2
    all_goals go_ret
    all_goals exact ⟨by simp [typedB, resL, errL, *], rfl⟩
  by_cases h2 : k = 2
  · subst h2
    by_cases g0 : t = [99, 104, 97, 116]
    · subst g0
      go_enter Tryd.func25, Tryd.ntmps25
      go_wp2
      all_goals go_ret
      all_goals exact ⟨by simp [typedB, resL, errL], rfl⟩
    have e0 : (t == [99, 104, 97, 116]) = false := by simpa using g0
    by_cases g1 : t = [104, 101, 97, 100, 108, 105, 110, 101]
    · subst g1
      go_enter Tryd.func25, Tryd.ntmps25
      go_wp2
      all_goals go_ret
      all_goals exact ⟨by simp [typedB, resL, errL], rfl⟩
    have e1 : (t == [104, 101, 97, 100, 108, 105, 110, 101]) = false := by simpa using g1
    by_cases g2 : t = [101, 114, 114, 111, 114]
    · subst g2
      go_enter Tryd.func25, Tryd.ntmps25
      go_wp2
      all_goals go_ret
      all_goals exact ⟨by simp [typedB, resL, errL], rfl⟩
    have e2 : (t == [101, 114, 114, 111, 114]) = false := by simpa using g2
    by_cases g3 : t = ([] : List UInt8)
    · subst g3
      go_enter Tryd.func25, Tryd.ntmps25
      go_wp2
      all_goals go_ret
      all_goals exact ⟨by simp [typedB, resL, errL], rfl⟩
    have e3 : (t == []) = false := by simpa using g3
    go_enter Tryd.func25, Tryd.ntmps25
    go_wp2
    all_goals go_ret
    all_goals exact ⟨by simp [typedB, resL, errL, *], rfl⟩
  have e1 : ((k : Int) == 1) = false := by simpa using (by omega : ¬ (k : Int) = 1)
  have e3 : ((k : Int) == 3) = false := by simpa using (by omega : ¬ (k : Int) = 3)
  have e2 : ((k : Int) == 2) = false := by simpa using (by omega : ¬ (k : Int) = 2)
  have f1 : ¬ (k : Int) = 1 := by omega
  have f3 : ¬ (k : Int) = 3 := by omega
  have f2 : ¬ (k : Int) = 2 := by omega
  go_enter Tryd.func25, Tryd.ntmps25
  go_wp2
  all_goals go_ret
  all_goals exact ⟨by simp [typedB, *], rfl⟩
end Go.Proofs.YtcfkegfddiglcaaDoor
