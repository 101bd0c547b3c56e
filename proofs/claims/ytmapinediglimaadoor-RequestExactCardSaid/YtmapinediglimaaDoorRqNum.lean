/-
  A text of digits as a number (request.number), by the program. Conditions: the text shorter than the reach; the library's variables are as they were laid.
-/
import Derived.Test.YtmapinediglimaaDoorRqEnc
import Derived.Lib.AtoiAllCases
import Derived.Lib.AtoiErrMem
namespace Go.Proofs.YtmapinediglimaaDoor
set_option linter.unusedVariables false
set_option linter.unusedSimpArgs false
open Go.RowKit Go.MapKept
/-- what the library's variables hold -/
structure Tabs (w : World) : Prop where
  pow : Pow10 w
  syn : ∃ tp p, w.var? Tryd.prog "strconv.ErrSyntax" = some #[.iface tp p]
  rng : ∃ tp p, w.var? Tryd.prog "strconv.ErrRange" = some #[.iface tp p]
theorem var_lt {P : Program} {w : World} {n : String} {g : Nat} {v : Value} (h : w.var? P n = some #[v]) (hg : P.globalNamed n = some g) : g < w.heap.size := by
  have := World.var?_cell hg h 0
  exact cell_lt (a := ⟨g, 0, none⟩) (u := v) (by simpa using this)
theorem Tabs.below {w w' : World} (h : Tabs w) (hb : Below w.heap.size w w') : Tabs w' := by
  obtain ⟨h1, ⟨t2, p2, h2⟩, ⟨t3, p3, h3⟩⟩ := h
  exact ⟨h1.below hb, ⟨t2, p2, var?_below hb (g := 1) (by kernel_rfl) (var_lt h2 (by kernel_rfl)) h2⟩, ⟨t3, p3, var?_below hb (g := 2) (by kernel_rfl) (var_lt h3 (by kernel_rfl)) h3⟩⟩
set_option maxRecDepth 100000 in
set_option maxHeartbeats 2000000 in
theorem number_any (s : List UInt8) (w : World) (hs : s.length ≤ 140737488351232) (hT : Tabs w) :
    Calls Tryd.prog 25 #[.string ⟨s.toArray⟩] w fun e w' => e = .returned (.int .i64 (numR s)) ∧ Below w.heap.size w w' := by
  cases ha : Lib.atoiAll s with
  | ok v =>
    obtain ⟨v0, v1⟩ := Lib.atoiAll_bounds ha
    have hA : Hid (Calls Tryd.prog 31 #[.string ⟨s.toArray⟩] w fun e w' => e = .returned (.tuple #[.int .i64 v, .nilIface]) ∧ Below w.heap.size w w') := Lib.hid ((Tryd.strconv_Atoi_ok ⟨s.toArray⟩ (by show s.toArray.size ≤ _; simp; omega) v (by simpa using ha) w).mono fun e w' ⟨h1, h2⟩ => ⟨h1, by
      rcases h2 with h2 | ⟨t, h2⟩
      · rw [h2]; exact Below.refl _ _
      · rw [h2]; exact Lib.bytesWorld_below _ _ _⟩)
    have hI : Hid (∀ W, Below w.heap.size w W → Calls Tryd.prog 18 #[.int .i64 v] W fun e w' => e = .returned (.string ⟨(Lib.itoa v).toArray⟩) ∧ Below W.heap.size W w') := Lib.hid fun W hb =>
      (Tryd.strconv_Itoa v v0 v1 W (hT.pow.below hb)).mono fun e w' ⟨h, k, os, h'⟩ => ⟨h, by rw [h']; exact Lib.below_grow _ _ (Nat.le_refl _) _ _⟩
    have hn : numR s = if v < 0 then -1 else if Lib.itoa v = s then v else -1 := by unfold numR; rw [ha]
    rw [hn]
    replace hT := Lib.hid hT
    replace ha := Lib.hid ha
    clear hn v0 v1
    by_cases h0 : v < 0
    · rw [if_pos h0]
      have hd : decide (v < 0) = true := by simpa using h0
      go_enter Tryd.func25, Tryd.ntmps25
      go_wp2_with (go_at_call 31; refine hA.out.mono ?_; rintro e w1 ⟨rfl, hb⟩)
      go_ret
      exact ⟨rfl, hb⟩
    · rw [if_neg h0]
      have hd : decide (v < 0) = false := by simpa using h0
      generalize Lib.itoa v = iv at *
      by_cases he : iv = s
      · rw [if_pos he]
        subst he
        go_enter Tryd.func25, Tryd.ntmps25
        go_wp2_with (first
          | (go_at_call 18; refine (hI.out _ hb.out).mono ?_; rintro e w2 ⟨rfl, hb2⟩)
          | (go_at_call 31; refine hA.out.mono ?_; rintro e w1 ⟨rfl, hb⟩; replace hb := Lib.hid hb))
        go_ret
        exact ⟨rfl, belowT hb.out hb2⟩
      · rw [if_neg he]
        have he2 : (iv == s) = false := by simpa using he
        go_enter Tryd.func25, Tryd.ntmps25
        go_wp2_with (first
          | (go_at_call 18; refine (hI.out _ hb.out).mono ?_; rintro e w2 ⟨rfl, hb2⟩)
          | (go_at_call 31; refine hA.out.mono ?_; rintro e w1 ⟨rfl, hb⟩; replace hb := Lib.hid hb))
        go_ret
        exact ⟨rfl, belowT hb.out hb2⟩
  | «syntax» =>
    have hn : numR s = -1 := by unfold numR; rw [ha]
    obtain ⟨tp, p, hv⟩ := hT.syn
    have hA : Hid (Calls Tryd.prog 31 #[.string ⟨s.toArray⟩] w fun e w' => (∃ N, e = .returned (.tuple #[.int .i64 0, .iface 98 (.pointer (some ⟨N, 0, none⟩))])) ∧ Below w.heap.size w w') := Lib.hid ((Tryd.strconv_Atoi_syntax_var ⟨s.toArray⟩ (by show s.toArray.size ≤ _; simp; omega) (by simpa using ha) tp p w hv).mono fun e w' ⟨N, h1, _, _, h4⟩ => ⟨⟨N, h1⟩, h4⟩)
    rw [hn]
    replace hT := Lib.hid hT
    replace ha := Lib.hid ha
    replace hv := Lib.hid hv
    go_enter Tryd.func25, Tryd.ntmps25
    go_wp2_with (go_at_call 31; refine hA.out.mono ?_; rintro e w1 ⟨⟨N, rfl⟩, hb⟩)
    go_ret
    exact ⟨rfl, hb⟩
  | range =>
    have hn : numR s = -1 := by unfold numR; rw [ha]
    obtain ⟨tp, p, hv⟩ := hT.rng
    have hA : Hid (Calls Tryd.prog 31 #[.string ⟨s.toArray⟩] w fun e w' => (∃ N, e = .returned (.tuple #[.int .i64 (Lib.atoiSat s), .iface 98 (.pointer (some ⟨N, 0, none⟩))])) ∧ Below w.heap.size w w') := Lib.hid ((Tryd.strconv_Atoi_range_var ⟨s.toArray⟩ (by show s.toArray.size ≤ _; simp; omega) (by simpa using ha) tp p w hv).mono fun e w' ⟨N, h1, _, _, h4⟩ => ⟨⟨N, by simpa using h1⟩, h4⟩)
    rw [hn]
    replace hT := Lib.hid hT
    replace ha := Lib.hid ha
    replace hv := Lib.hid hv
    generalize Lib.atoiSat s = sat at hA
    go_enter Tryd.func25, Tryd.ntmps25
    go_wp2_with (go_at_call 31; refine hA.out.mono ?_; rintro e w1 ⟨⟨N, rfl⟩, hb⟩)
    go_ret
    exact ⟨rfl, hb⟩
end Go.Proofs.YtmapinediglimaaDoor
