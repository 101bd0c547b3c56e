/-
  The walk of the law FaultStays. Condition: errorType is laid.
-/
import Derived.Test.YtegdmfpdelboaaaDoorFaultWPlaces
import Derived.Test.YtegdmfpdelboaaaDoorFaultWTypes
namespace Go.Proofs.YtegdmfpdelboaaaDoor
set_option linter.unusedVariables false
set_option linter.unusedSimpArgs false
open Go.RowKit
theorem faultStays_un (c : Int) (hk : knownB c = false) (v : Value) (qs : List Int) (other : Int) (w : World) (h : Pl w v qs) (hg : G0 w) :
    Calls Tryd.prog 8 #[.int .i64 c, v, .int .i64 other] w fun e w' => e = .returned (.bool true) ∧ Below w.heap.size w w' := by
  go_enter Tryd.func8, Tryd.ntmps8
  go_wp2_with (first
    | (go_at_call 13; refine (wrapped_un c hk v qs _ h).mono ?_; rintro e w1 ⟨rfl, hb1⟩)
    | (go_at_call 21; refine (cond_nil _).mono ?_; rintro e w2 ⟨rfl, hb2⟩; have hb3 := belowT hb1 hb2)
    | (go_at_call 12; refine (name0_any _ _).mono ?_; rintro e w3 ⟨rfl, rfl⟩; rw [nameL_un hk])
    | (go_at_call 11; refine (live_any _ (hg.below hb3)).mono ?_; rintro e w4 ⟨rfl, hb4⟩; have hb5 := belowT hb3 hb4)
    | (go_at_call 23; refine (isF_nil _ _).mono ?_; rintro e w5 ⟨rfl, hb6⟩; have hb7 := belowT hb5 hb6)
    | (go_at_call 22; refine (depth_nil _).mono ?_; rintro e w6 ⟨rfl, rfl⟩))
  go_ret
  exact ⟨rfl, hb7⟩
theorem faultStays_kn (c : Int) (hk : knownB c = true) (a : Option Addr) (len cap : Nat) (ps : List Int) (hps : ps.length = min 30 len) (other : Int) (w : World) (hg : G0 w)
    (hw : Calls Tryd.prog 13 #[.int .i64 c, .slice a len cap] w fun e w' => ∃ u, e = .returned u ∧ Ch w' c ps u ∧ Below w.heap.size w w') :
    Calls Tryd.prog 8 #[.int .i64 c, .slice a len cap, .int .i64 other] w fun e w' => e = .returned (.bool true) ∧ Below w.heap.size w w' := by
  have hn : (nameL c == []) = false := by simpa using (name_letters hk).1
  have hI1 : (knownB c && (c == c)) = true := by rw [hk]; simp
  have hI2 : (knownB other && (c == other)) = (other == c) := by
    by_cases e : other = c
    · subst e
      rw [hk]; simp
    · have e1 : (c == other) = false := by rw [beq_eq_false_iff_ne]; exact fun h => e h.symm
      have e2 : (other == c) = false := by rw [beq_eq_false_iff_ne]; exact e
      rw [e1, e2, Bool.and_false]
  by_cases h30 : 30 < len
  · have b1 : decide ((30 : Int) < (len : Int)) = true := by simp; omega
    have hps2 : ps.length = 30 := by omega
    clear hps
    have hps := hps2
    go_enter Tryd.func8, Tryd.ntmps8
    go_wp2_with (first
      | (go_at_call 13; refine hw.mono ?_; rintro e w1 ⟨u, rfl, hC, hb1⟩; obtain ⟨tu, xu, rfl⟩ := hC.iface)
      | (go_at_call 21; refine (cond_any c ps _ _ hC (hg.below hb1)).mono ?_; rintro e w2 ⟨rfl, hb2⟩; have hb3 := belowT hb1 hb2; have hC2 := hC.below hb2)
      | (go_at_call 12; refine (name0_any _ _).mono ?_; rintro e w3 ⟨rfl, rfl⟩)
      | (go_at_call 11; refine (live_any _ (hg.below hb3)).mono ?_; rintro e w4 ⟨rfl, hb4⟩; have hb5 := belowT hb3 hb4; have hC4 := hC2.below hb4)
      | (have m0 := m1; go_at_call 23; refine (isF_any other c ps _ _ hC5).mono ?_; rintro e w6 ⟨rfl, hb8⟩; have hb9 := belowT hb7 hb8; have hC6 := hC5.below hb8; rw [hI2])
      | (go_at_call 23; refine (isF_any c c ps _ _ hC4).mono ?_; rintro e w5 ⟨rfl, hb6⟩; have hb7 := belowT hb5 hb6; have hC5 := hC4.below hb6; rw [hI1]; have m1 := True.intro)
      | (go_at_call 22; refine (depth_any c ps _ _ hC6 (by omega)).mono ?_; rintro e w7 ⟨rfl, rfl⟩; rw [hps]))
    go_ret
    exact ⟨rfl, hb9⟩
  · have b1 : decide ((30 : Int) < (len : Int)) = false := by simp; omega
    have hps2 : ps.length = len := by omega
    clear hps
    have hps := hps2
    go_enter Tryd.func8, Tryd.ntmps8
    go_wp2_with (first
      | (go_at_call 13; refine hw.mono ?_; rintro e w1 ⟨u, rfl, hC, hb1⟩; obtain ⟨tu, xu, rfl⟩ := hC.iface)
      | (go_at_call 21; refine (cond_any c ps _ _ hC (hg.below hb1)).mono ?_; rintro e w2 ⟨rfl, hb2⟩; have hb3 := belowT hb1 hb2; have hC2 := hC.below hb2)
      | (go_at_call 12; refine (name0_any _ _).mono ?_; rintro e w3 ⟨rfl, rfl⟩)
      | (go_at_call 11; refine (live_any _ (hg.below hb3)).mono ?_; rintro e w4 ⟨rfl, hb4⟩; have hb5 := belowT hb3 hb4; have hC4 := hC2.below hb4)
      | (have m0 := m1; go_at_call 23; refine (isF_any other c ps _ _ hC5).mono ?_; rintro e w6 ⟨rfl, hb8⟩; have hb9 := belowT hb7 hb8; have hC6 := hC5.below hb8; rw [hI2])
      | (go_at_call 23; refine (isF_any c c ps _ _ hC4).mono ?_; rintro e w5 ⟨rfl, hb6⟩; have hb7 := belowT hb5 hb6; have hC5 := hC4.below hb6; rw [hI1]; have m1 := True.intro)
      | (go_at_call 22; refine (depth_any c ps _ _ hC6 (by omega)).mono ?_; rintro e w7 ⟨rfl, rfl⟩; rw [hps]))
    go_ret
    exact ⟨rfl, hb9⟩
theorem Pl.slice {w : World} {v : Value} {qs : List Int} (h : Pl w v qs) : ∃ a cap, v = .slice a qs.length cap := by
  rcases h with ⟨rfl, rfl⟩ | ⟨a, cap, rfl, -⟩
  · exact ⟨_, _, rfl⟩
  · exact ⟨_, _, rfl⟩
theorem faultStays_walk (c : Int) (v : Value) (qs : List Int) (other : Int) (w : World) (h : Pl w v qs) (hg : G0 w) :
    Calls Tryd.prog 8 #[.int .i64 c, v, .int .i64 other] w fun e w' => e = .returned (.bool true) ∧ Below w.heap.size w w' := by
  cases hk : knownB c
  · exact faultStays_un c hk v qs other w h hg
  · have hw := wrapped_any c hk v qs w h
    obtain ⟨a, cap, rfl⟩ := h.slice
    exact faultStays_kn c hk a qs.length cap _ (by simp) other w hg hw
end Go.Proofs.YtegdmfpdelboaaaDoor
