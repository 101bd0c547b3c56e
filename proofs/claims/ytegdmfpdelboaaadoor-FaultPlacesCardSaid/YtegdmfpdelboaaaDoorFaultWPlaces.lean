/-
  The walk of the law FaultPlaces. Condition: errorType is laid.
-/
import Derived.Test.YtegdmfpdelboaaaDoorFaultWrapped
namespace Go.Proofs.YtegdmfpdelboaaaDoor
set_option linter.unusedVariables false
set_option linter.unusedSimpArgs false
open Go.RowKit
theorem Pl.below {w w' : World} {v : Value} {qs : List Int} (h : Pl w v qs) (hb : Below w.heap.size w w') : Pl w' v qs := by
  rcases h with h | ⟨a, cap, rfl, ha, hc, hl, hm⟩
  · exact .inl h
  · refine .inr ⟨a, cap, rfl, fun h0 => Nat.lt_of_lt_of_le (ha h0) hb.size, fun i hi => ?_, hl, hm⟩
    rw [hb.cell (p := a.add i) (by unfold Addr.add; split <;> exact ha (by omega)), hc i hi]
/-- what Place answers at a chain -/
def placeV : List Int → Value
  | [] => .tuple #[.int .i64 0, .bool false]
  | p :: _ => .tuple #[.int .i64 p, .bool true]
theorem place_any (c : Int) (ps : List Int) (v : Value) (w : World) (h : Ch w c ps v) (hg : G0 w) :
    Calls Tryd.prog 14 #[v] w fun e w' => e = .returned (placeV ps) ∧ Below w.heap.size w w' := by
  cases ps with
  | nil =>
    obtain rfl := h
    exact place_bare _ w hg
  | cons p ps =>
    obtain ⟨B, u, rfl, h2, h3, h4, h5⟩ := h
    exact place_wrapped B p w h2 h4 hg
theorem faultPlaces_un (c : Int) (hk : knownB c = false) (v : Value) (qs : List Int) (last : Int) (w : World) (h : Pl w v qs) (hg : G0 w) :
    Calls Tryd.prog 4 #[.int .i64 c, v, .int .i64 last] w fun e w' => e = .returned (.bool true) ∧ Below w.heap.size w w' := by
  go_enter Tryd.func4, Tryd.ntmps4
  go_wp2_with (first
    | (go_at_call 13; refine (wrapped_un c hk v qs _ h).mono ?_; rintro e w1 ⟨rfl, hb1⟩)
    | (go_at_call 15; refine (wrap_nil _ _).mono ?_; rintro e w3 ⟨rfl, rfl⟩)
    | (have hb0 := hb2; go_at_call 14; refine (place_nil _).mono ?_; rintro e w4 ⟨rfl, hb3⟩)
    | (go_at_call 14; refine (place_nil _).mono ?_; rintro e w2 ⟨rfl, hb2⟩)
    | (go_at_call 11; refine (live_any _ (hg.below (belowT (belowT hb1 hb2) hb3))).mono ?_; rintro e w5 ⟨rfl, hb4⟩))
  go_ret
  exact ⟨rfl, belowT (belowT (belowT hb1 hb2) hb3) hb4⟩
theorem faultPlaces_0 (c : Int) (v : Value) (hv : v = .slice none 0 0 ∨ ∃ a cap, v = .slice (some a) 0 cap) (last : Int) (w : World) (hg : G0 w)
    (hw : Calls Tryd.prog 13 #[.int .i64 c, v] w fun e w' => ∃ u, e = .returned u ∧ Ch w' c [] u ∧ Below w.heap.size w w') :
    Calls Tryd.prog 4 #[.int .i64 c, v, .int .i64 last] w fun e w' => e = .returned (.bool true) ∧ Below w.heap.size w w' := by
  rcases hv with rfl | ⟨a, cap, rfl⟩
  · go_enter Tryd.func4, Tryd.ntmps4
    go_wp2_with (first
      | (go_at_call 13; refine hw.mono ?_; rintro e w1 ⟨u, rfl, hC, hb1⟩; obtain ⟨tu, xu, rfl⟩ := hC.iface)
      | (go_at_call 15; refine (wrap_any _ _ _ _).mono ?_; rintro e w3 ⟨rfl, rfl⟩; have hC2 := Ch.wrap (p := last) (hC.below hb2); have hb3 := belowA (belowT hb1 hb2) (.cells #[.iface tu xu, .int .i64 last] 52))
      | (go_at_call 14; refine (place_any c _ _ _ hC2 (hg.below hb3)).mono ?_; rintro e w4 ⟨rfl, hb4⟩; have hb5 := belowT hb3 hb4; simp only [placeV])
      | (go_at_call 14; refine (place_any c _ _ _ hC (hg.below hb1)).mono ?_; rintro e w2 ⟨rfl, hb2⟩; simp only [placeV])
      | (go_at_call 11; refine (live_any _ (hg.below hb5)).mono ?_; rintro e w5 ⟨rfl, hb6⟩; have hb7 := belowT hb5 hb6))
    go_ret
    exact ⟨rfl, hb7⟩
  · go_enter Tryd.func4, Tryd.ntmps4
    go_wp2_with (first
      | (go_at_call 13; refine hw.mono ?_; rintro e w1 ⟨u, rfl, hC, hb1⟩; obtain ⟨tu, xu, rfl⟩ := hC.iface)
      | (go_at_call 15; refine (wrap_any _ _ _ _).mono ?_; rintro e w3 ⟨rfl, rfl⟩; have hC2 := Ch.wrap (p := last) (hC.below hb2); have hb3 := belowA (belowT hb1 hb2) (.cells #[.iface tu xu, .int .i64 last] 52))
      | (go_at_call 14; refine (place_any c _ _ _ hC2 (hg.below hb3)).mono ?_; rintro e w4 ⟨rfl, hb4⟩; have hb5 := belowT hb3 hb4; simp only [placeV])
      | (go_at_call 14; refine (place_any c _ _ _ hC (hg.below hb1)).mono ?_; rintro e w2 ⟨rfl, hb2⟩; simp only [placeV])
      | (go_at_call 11; refine (live_any _ (hg.below hb5)).mono ?_; rintro e w5 ⟨rfl, hb6⟩; have hb7 := belowT hb5 hb6))
    go_ret
    exact ⟨rfl, hb7⟩
theorem faultPlaces_more (c : Int) (a : Addr) (len cap j : Nat) (x : Int) (ps : List Int) (hj : (30 < len ∧ j = 29) ∨ (len = j + 1 ∧ len ≤ 30)) (last : Int) (w : World) (hg : G0 w) (ha : a.block < w.heap.size) (hc : w.cell? (a.add j) = some (.int .i64 x))
    (hw : Calls Tryd.prog 13 #[.int .i64 c, .slice (some a) len cap] w fun e w' => ∃ u, e = .returned u ∧ Ch w' c (x :: ps) u ∧ Below w.heap.size w w') :
    Calls Tryd.prog 4 #[.int .i64 c, .slice (some a) len cap, .int .i64 last] w fun e w' => e = .returned (.bool true) ∧ Below w.heap.size w w' := by
  rcases hj with ⟨h1, rfl⟩ | ⟨rfl, h1⟩
  · have b1 : decide ((30 : Int) < (len : Int)) = true := by simp; omega
    go_enter Tryd.func4, Tryd.ntmps4
    go_wp2_with (first
      | (go_at_call 13; refine hw.mono ?_; rintro e w1 ⟨u, rfl, hC, hb1⟩; obtain ⟨tu, xu, rfl⟩ := hC.iface)
      | (go_at_call 15; refine (wrap_any _ _ _ _).mono ?_; rintro e w3 ⟨rfl, rfl⟩; have hC2 := Ch.wrap (p := last) (hC.below hb2); have hb3 := belowA (belowT hb1 hb2) (.cells #[.iface tu xu, .int .i64 last] 52))
      | (go_at_call 14; refine (place_any c _ _ _ hC2 (hg.below hb3)).mono ?_; rintro e w4 ⟨rfl, hb4⟩; have hb5 := belowT hb3 hb4; simp only [placeV])
      | (go_at_call 14; refine (place_any c _ _ _ hC (hg.below hb1)).mono ?_; rintro e w2 ⟨rfl, hb2⟩; simp only [placeV])
      | (go_at_call 11; refine (live_any _ (hg.below hb5)).mono ?_; rintro e w5 ⟨rfl, hb6⟩; have hb7 := belowT hb5 hb6; have hcc : _ = _ := (hb7.cell (p := a.add 29) (by unfold Addr.add; split <;> exact ha)).trans hc; rw [show a.add 29 = ⟨a.block, a.off + 29, none⟩ from by simp [Addr.add]] at hcc))
    go_ret
    exact ⟨rfl, hb7⟩
  · have b1 : decide ((30 : Int) < ((j + 1 : Nat) : Int)) = false := by simp; omega
    have b2 : (((j + 1 : Nat) : Int) == 0) = false := by simp; omega
    have b3 : ((j + 1 : Nat) : Int) - 1 = j := by omega
    go_enter Tryd.func4, Tryd.ntmps4
    go_wp2_with (first
      | (go_at_call 13; refine hw.mono ?_; rintro e w1 ⟨u, rfl, hC, hb1⟩; obtain ⟨tu, xu, rfl⟩ := hC.iface)
      | (go_at_call 15; refine (wrap_any _ _ _ _).mono ?_; rintro e w3 ⟨rfl, rfl⟩; have hC2 := Ch.wrap (p := last) (hC.below hb2); have hb3 := belowA (belowT hb1 hb2) (.cells #[.iface tu xu, .int .i64 last] 52))
      | (go_at_call 14; refine (place_any c _ _ _ hC2 (hg.below hb3)).mono ?_; rintro e w4 ⟨rfl, hb4⟩; have hb5 := belowT hb3 hb4; simp only [placeV])
      | (go_at_call 14; refine (place_any c _ _ _ hC (hg.below hb1)).mono ?_; rintro e w2 ⟨rfl, hb2⟩; simp only [placeV])
      | (go_at_call 11; refine (live_any _ (hg.below hb5)).mono ?_; rintro e w5 ⟨rfl, hb6⟩; have hb7 := belowT hb5 hb6; have hcc := (hb7.cell (p := a.add j) (by unfold Addr.add; split <;> exact ha)).trans hc))
    go_ret
    exact ⟨rfl, hb7⟩
/-- the places of an error that was wrapped so often -/
theorem Pl.top {w : World} {v : Value} {qs : List Int} (h : Pl w v qs) :
    ((v = .slice none 0 0 ∨ ∃ a cap, v = .slice (some a) 0 cap) ∧ (qs.take 30).reverse = []) ∨
    ∃ a len cap j x, v = .slice (some a) len cap ∧ ((30 < len ∧ j = 29) ∨ (len = j + 1 ∧ len ≤ 30)) ∧ a.block < w.heap.size ∧ w.cell? (a.add j) = some (.int .i64 x) ∧ (qs.take 30).reverse = x :: (qs.take j).reverse ∧ qs.length = len := by
  rcases h with ⟨rfl, rfl⟩ | ⟨a, cap, rfl, ha, hc, hl, hm⟩
  · exact .inl ⟨.inl rfl, rfl⟩
  · rcases Nat.eq_zero_or_pos qs.length with h0 | h0
    · have := List.length_eq_zero_iff.1 h0
      subst this
      exact .inl ⟨.inr ⟨a, cap, rfl⟩, rfl⟩
    · refine .inr ?_
      by_cases h30 : 30 < qs.length
      · exact ⟨a, qs.length, cap, 29, qs.getD 29 0, rfl, .inl ⟨h30, rfl⟩, ha h0, hc 29 (by omega), take_rev qs 29 (by omega), rfl⟩
      · obtain ⟨j, hj⟩ : ∃ j, qs.length = j + 1 := ⟨qs.length - 1, by omega⟩
        refine ⟨a, qs.length, cap, j, qs.getD j 0, rfl, .inr ⟨hj, by omega⟩, ha h0, hc j (by omega), ?_, rfl⟩
        rw [← take_rev qs j (by omega), List.take_of_length_le (by omega), List.take_of_length_le (by omega)]
theorem faultPlaces_walk (c : Int) (v : Value) (qs : List Int) (last : Int) (w : World) (h : Pl w v qs) (hg : G0 w) :
    Calls Tryd.prog 4 #[.int .i64 c, v, .int .i64 last] w fun e w' => e = .returned (.bool true) ∧ Below w.heap.size w w' := by
  cases hk : knownB c
  · exact faultPlaces_un c hk v qs last w h hg
  · have hw := wrapped_any c hk v qs w h
    rcases h.top with ⟨hv, hr⟩ | ⟨a, len, cap, j, x, rfl, hj, ha, hc, hr, -⟩
    · rw [hr] at hw
      exact faultPlaces_0 c v hv last w hg hw
    · rw [hr] at hw
      exact faultPlaces_more c a len cap j x _ hj last w hg ha hc hw
end Go.Proofs.YtegdmfpdelboaaaDoor
