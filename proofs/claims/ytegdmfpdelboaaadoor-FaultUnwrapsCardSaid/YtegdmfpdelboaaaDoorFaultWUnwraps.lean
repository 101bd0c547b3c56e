/-
  The walk of the law FaultUnwraps. Condition: errorType is laid.
-/
import Derived.Test.YtegdmfpdelboaaaDoorFaultWPlaces
namespace Go.Proofs.YtegdmfpdelboaaaDoor
set_option linter.unusedVariables false
set_option linter.unusedSimpArgs false
open Go.RowKit
theorem faultUnwraps_un (c : Int) (hk : knownB c = false) (v : Value) (qs : List Int) (last : Int) (w : World) (h : Pl w v qs) (hg : G0 w) :
    Calls Tryd.prog 7 #[.int .i64 c, v, .int .i64 last] w fun e w' => e = .returned (.bool true) ∧ Below w.heap.size w w' := by
  go_enter Tryd.func7, Tryd.ntmps7
  go_wp2_with (first
    | (go_at_call 13; refine (wrapped_un c hk v qs _ h).mono ?_; rintro e w1 ⟨rfl, hb1⟩)
    | (go_at_call 15; refine (wrap_nil _ _).mono ?_; rintro e w3 ⟨rfl, rfl⟩)
    | (go_at_call 11; refine (live_any _ (hg.below hb1)).mono ?_; rintro e w5 ⟨rfl, hb4⟩))
  go_ret
  exact ⟨rfl, belowT hb1 hb4⟩
theorem placeV_form (ps : List Int) : ∃ p b, placeV ps = .tuple #[.int .i64 p, .bool b] := by
  cases ps
  · exact ⟨_, _, rfl⟩
  · exact ⟨_, _, rfl⟩
set_option maxHeartbeats 1000000 in
theorem faultUnwraps_kn (c : Int) (v : Value) (ps : List Int) (hl : ps.length ≤ 30) (last : Int) (w : World) (hg : G0 w)
    (hw : Calls Tryd.prog 13 #[.int .i64 c, v] w fun e w' => ∃ u, e = .returned u ∧ Ch w' c ps u ∧ Below w.heap.size w w') :
    Calls Tryd.prog 7 #[.int .i64 c, v, .int .i64 last] w fun e w' => e = .returned (.bool true) ∧ Below w.heap.size w w' := by
  obtain ⟨p, b, hpb⟩ := placeV_form ps
  go_enter Tryd.func7, Tryd.ntmps7
  go_wp2_with (first
    | (go_at_call 13; refine hw.mono ?_; rintro e w1 ⟨u, rfl, hC, hb1⟩; obtain ⟨tu, xu, rfl⟩ := hC.iface)
    | (go_at_call 15; refine (wrap_any _ _ _ _).mono ?_; rintro e w2 ⟨rfl, rfl⟩; have hC2 := Ch.wrap (p := last) hC; have hC3 := hC.below (below1 w1 (.cells #[.iface tu xu, .int .i64 last] 52)); have hb2 := belowA hb1 (.cells #[.iface tu xu, .int .i64 last] 52))
    | (go_at_call 20; refine (unwrap_placed w1.heap.size (.iface tu xu) _ (by simp)).mono ?_; rintro e w3 ⟨rfl, rfl⟩)
    | (go_at_call 21; refine (cond_any c ps _ _ hC3 (hg.below hb2)).mono ?_; rintro e w4 ⟨rfl, hb4⟩; have hb5 := belowT hb2 hb4; have hC4 := hC3.below hb4; have hC5 := hC2.below hb4)
    | (have hb0 := hb6; go_at_call 14; refine (place_any c _ _ _ hC6 (hg.below hb7)).mono ?_; rintro e w6 ⟨rfl, hb8⟩; have hb9 := belowT hb7 hb8; have hC8 := hC6.below hb8; have hC9 := hC7.below hb8; rw [hpb])
    | (go_at_call 14; refine (place_any c _ _ _ hC4 (hg.below hb5)).mono ?_; rintro e w5 ⟨rfl, hb6⟩; have hb7 := belowT hb5 hb6; have hC6 := hC4.below hb6; have hC7 := hC5.below hb6; rw [hpb])
    | (go_at_call 11; refine (live_any _ (hg.below hb9)).mono ?_; rintro e w7 ⟨rfl, hb10⟩; have hb11 := belowT hb9 hb10; have hC10 := hC8.below hb10; have hC11 := hC9.below hb10; have d1 := Lib.hid (depth_any c ps _ _ hC10 (by omega)); have d2 := Lib.hid (depth_any c (last :: ps) _ _ hC11 (by simp; omega)))
    | (have m0 := m3; go_at_call 22; refine d1.out.mono ?_; rintro e w8 ⟨rfl, rfl⟩)
    | (have m0 := m2; go_at_call 22; refine d2.out.mono ?_; rintro e w8 ⟨rfl, rfl⟩; have m3 := True.intro)
    | (have m0 := m1; go_at_call 22; refine d1.out.mono ?_; rintro e w8 ⟨rfl, rfl⟩; have m2 := True.intro)
    | (go_at_call 22; refine d1.out.mono ?_; rintro e w8 ⟨rfl, rfl⟩; have m1 := True.intro))
  go_ret
  exact ⟨rfl, hb11⟩
theorem faultUnwraps_walk (c : Int) (v : Value) (qs : List Int) (last : Int) (w : World) (h : Pl w v qs) (hg : G0 w) :
    Calls Tryd.prog 7 #[.int .i64 c, v, .int .i64 last] w fun e w' => e = .returned (.bool true) ∧ Below w.heap.size w w' := by
  cases hk : knownB c
  · exact faultUnwraps_un c hk v qs last w h hg
  · exact faultUnwraps_kn c v _ (by simp; omega) last w hg (wrapped_any c hk v qs w h)
end Go.Proofs.YtegdmfpdelboaaaDoor
