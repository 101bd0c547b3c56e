/-
  The walks of the laws FaultNames and FaultBack. Condition: errorType is laid.
-/
import Derived.Test.YtegdmfpdelboaaaDoorFaultLive
import Derived.Test.YtegdmfpdelboaaaDoorFaultParse
namespace Go.Proofs.YtegdmfpdelboaaaDoor
set_option linter.unusedVariables false
set_option linter.unusedSimpArgs false
open Go.RowKit
theorem faultNames_walk (c : Int) (s : List UInt8) (w : World) (hg : G0 w) :
    Calls Tryd.prog 5 #[.int .i64 c, .string ⟨s.toArray⟩] w fun e w' => e = .returned (.bool true) ∧ Below w.heap.size w w' := by
  go_enter Tryd.func5, Tryd.ntmps5
  go_wp2_with (first
    | (go_at_call 16; refine (parse_any s _).mono ?_; rintro e w1 ⟨rfl, hb1⟩; unfold parseC)
    | (go_at_call 17; refine (parse0_any s _).mono ?_; rintro e w2 ⟨rfl, rfl⟩; unfold parseC)
    | (go_at_call 11; refine (live_any _ (hg.below hb1)).mono ?_; rintro e w3 ⟨rfl, hb3⟩)
    | (go_at_call 10; refine (name_any _ _).mono ?_; rintro e w4 ⟨rfl, hb4⟩)
    | (go_at_call 9; refine (type_any _ _).mono ?_; rintro e w5 ⟨rfl, hb5⟩)
    | (go_at_call 12; refine (name0_any _ _).mono ?_; rintro e w6 ⟨rfl, rfl⟩)
    | (go_at_call 18; refine (type0_any _ _).mono ?_; rintro e w7 ⟨rfl, rfl⟩))
  go_ret
  exact ⟨rfl, belowT (belowT (belowT hb1 hb3) hb4) hb5⟩
theorem condL_name {a : Int} (h : knownB a = true) : condL (nameL a) = a := by
  obtain rfl | rfl | rfl | rfl | rfl | rfl | rfl | rfl | rfl | rfl := known_cases h <;> decide
theorem condL_un {a : Int} (h : knownB a = false) : condL (nameL a) = 0 := by
  rw [nameL_un h]
  decide
theorem name_inj {a b : Int} (h : knownB a = true) (hne : a ≠ b) : (nameL a == nameL b) = false := by
  rw [beq_eq_false_iff_ne]
  intro e
  have e1 := condL_name h
  rw [e] at e1
  cases hb : knownB b
  · rw [condL_un hb] at e1
    subst e1
    exact absurd h (by decide)
  · rw [condL_name hb] at e1
    exact hne e1.symm
theorem type_ne {a : Int} (h : knownB a = true) : (typeL a == []) = false := by
  obtain rfl | rfl | rfl | rfl | rfl | rfl | rfl | rfl | rfl | rfl := known_cases h <;> decide
theorem faultBack_walk (a b : Int) (w : World) (hg : G0 w) :
    Calls Tryd.prog 6 #[.int .i64 a, .int .i64 b] w fun e w' => e = .returned (.bool true) ∧ Below w.heap.size w w' := by
  cases hk : knownB a
  · have hc := condL_un hk
    have hn' : (nameL a == []) = true := by rw [nameL_un hk]; rfl
    have k0 : knownB 0 = false := by decide
    have hk2 := hk
    simp only [knownB, decide_eq_false_iff_not] at hk2
    by_cases h1 : 1 ≤ a
    · have h2 : decide (a ≤ 10) = false := by simp; omega
      go_enter Tryd.func6, Tryd.ntmps6
      go_wp2_with (first
        | (go_at_call 16; refine (parse_any _ _).mono ?_; rintro e w1 ⟨rfl, hb1⟩; unfold parseC; rw [hc, k0])
        | (go_at_call 11; refine (live_any _ (hg.below (belowT hb0 hb1))).mono ?_; rintro e w3 ⟨rfl, hb3⟩)
        | (go_at_call 19; refine (make_any _ _).mono ?_; rintro e w6 ⟨rfl, rfl⟩; rw [if_neg (by rw [hk]; decide)])
        | (have hb4 := hb3; go_at_call 10; refine (name_any _ _).mono ?_; rintro e w5 ⟨rfl, hb5⟩)
        | (go_at_call 10; refine (name_any _ _).mono ?_; rintro e w0 ⟨rfl, hb0⟩))
      go_ret
      exact ⟨rfl, belowT (belowT (belowT hb0 hb1) hb3) hb5⟩
    · go_enter Tryd.func6, Tryd.ntmps6
      go_wp2_with (first
        | (go_at_call 16; refine (parse_any _ _).mono ?_; rintro e w1 ⟨rfl, hb1⟩; unfold parseC; rw [hc, k0])
        | (go_at_call 11; refine (live_any _ (hg.below (belowT hb0 hb1))).mono ?_; rintro e w3 ⟨rfl, hb3⟩)
        | (go_at_call 19; refine (make_any _ _).mono ?_; rintro e w6 ⟨rfl, rfl⟩; rw [if_neg (by rw [hk]; decide)])
        | (have hb4 := hb3; go_at_call 10; refine (name_any _ _).mono ?_; rintro e w5 ⟨rfl, hb5⟩)
        | (go_at_call 10; refine (name_any _ _).mono ?_; rintro e w0 ⟨rfl, hb0⟩))
      go_ret
      exact ⟨rfl, belowT (belowT (belowT hb0 hb1) hb3) hb5⟩
  · have hc := condL_name hk
    have ht := type_ne hk
    have hk2 := hk
    simp only [knownB, decide_eq_true_eq] at hk2
    obtain ⟨h1, h2⟩ := hk2
    by_cases hab : a = b
    · subst hab
      go_enter Tryd.func6, Tryd.ntmps6
      go_wp2_with (first
        | (go_at_call 16; refine (parse_any _ _).mono ?_; rintro e w1 ⟨rfl, hb1⟩; unfold parseC; rw [hc, hk])
        | (go_at_call 11; refine (live_any _ (hg.below (belowT hb0 hb1))).mono ?_; rintro e w3 ⟨rfl, hb3⟩)
        | (go_at_call 9; refine (type_any _ _).mono ?_; rintro e w7 ⟨rfl, hb7⟩)
        | (have hb4 := hb5; go_at_call 10; refine (name_any _ _).mono ?_; rintro e w6 ⟨rfl, hb6⟩)
        | (have hb4 := hb3; go_at_call 10; refine (name_any _ _).mono ?_; rintro e w5 ⟨rfl, hb5⟩)
        | (go_at_call 10; refine (name_any _ _).mono ?_; rintro e w0 ⟨rfl, hb0⟩))
      go_ret
      exact ⟨rfl, belowT (belowT (belowT (belowT (belowT hb0 hb1) hb3) hb5) hb6) hb7⟩
    · have hab2 := name_inj hk hab
      have hab3 : (a == b) = false := by simpa using hab
      go_enter Tryd.func6, Tryd.ntmps6
      go_wp2_with (first
        | (go_at_call 16; refine (parse_any _ _).mono ?_; rintro e w1 ⟨rfl, hb1⟩; unfold parseC; rw [hc, hk])
        | (go_at_call 11; refine (live_any _ (hg.below (belowT hb0 hb1))).mono ?_; rintro e w3 ⟨rfl, hb3⟩)
        | (go_at_call 9; refine (type_any _ _).mono ?_; rintro e w7 ⟨rfl, hb7⟩)
        | (have hb4 := hb5; go_at_call 10; refine (name_any _ _).mono ?_; rintro e w6 ⟨rfl, hb6⟩)
        | (have hb4 := hb3; go_at_call 10; refine (name_any _ _).mono ?_; rintro e w5 ⟨rfl, hb5⟩)
        | (go_at_call 10; refine (name_any _ _).mono ?_; rintro e w0 ⟨rfl, hb0⟩))
      go_ret
      exact ⟨rfl, belowT (belowT (belowT (belowT (belowT hb0 hb1) hb3) hb5) hb6) hb7⟩
end Go.Proofs.YtegdmfpdelboaaaDoor
