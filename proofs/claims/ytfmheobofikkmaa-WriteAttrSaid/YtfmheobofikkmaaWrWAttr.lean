/-
  The walk of WriteAttr.
-/
import Derived.Test.YtfmheobofikkmaaWrLive
import Derived.Test.YtfmheobofikkmaaWrAttr
import Derived.Deep.RegionHeld3
namespace Go.Proofs.Ytfmheobofikkmaa
set_option linter.unusedVariables false
set_option linter.unusedSimpArgs false
open Go.RowKit Go.MapKept
theorem TkS.two {w : World} {v : Value} {k0 k1 : Int} {n0 n1 t0 t1 : List UInt8} {a0 a1 : Ats} (h : TkS w v [⟨k0, n0, a0, t0⟩, ⟨k1, n1, a1, t1⟩]) : ∃ b o c sv0 sv1, v = .slice (some ⟨b, o, none⟩) 2 c ∧ b < w.heap.size ∧ 2 ≤ c ∧ c ≤ maxLen ∧
    w.cell? ⟨b, o, none⟩ = some (.int .u8 k0) ∧ w.cell? ⟨b, o + 1, none⟩ = some (.string ⟨n0.toArray⟩) ∧ w.cell? ⟨b, o + 2, none⟩ = some sv0 ∧ w.cell? ⟨b, o + 3, none⟩ = some (.string ⟨t0.toArray⟩) ∧
    w.cell? ⟨b, o + 4, none⟩ = some (.int .u8 k1) ∧ w.cell? ⟨b, o + 5, none⟩ = some (.string ⟨n1.toArray⟩) ∧ w.cell? ⟨b, o + 6, none⟩ = some sv1 ∧ w.cell? ⟨b, o + 7, none⟩ = some (.string ⟨t1.toArray⟩) ∧ AtS w sv0 a0 ∧ AtS w sv1 a1 := by
  obtain ⟨ptr, cap, rfl, h2, h2', h3⟩ := h
  obtain ⟨b, o, rfl, h5, h6⟩ := h3 (by simp)
  obtain ⟨sv0, c0, c1, c2, c3, c4⟩ := h6 0 (by simp)
  obtain ⟨sv1, d0, d1, d2, d3, d4⟩ := h6 1 (by simp)
  exact ⟨b, o, cap, sv0, sv1, rfl, h5, h2, h2', c0, c1, c2, c3, d0, d1, d2, d3, c4, d4⟩
theorem attrV_hit (x y : List UInt8) : attrV x [(x, y)] = .tuple #[.string ⟨y.toArray⟩, .bool true] := by simp [attrV, attrR]
theorem attrV_miss (x y z : List UInt8) (h : z ≠ x) : attrV z [(x, y)] = .tuple #[.string ⟨#[]⟩, .bool false] := by
  have e : (x == z) = false := by simpa using Ne.symm h
  simp [attrV, attrR, List.find?, e]
theorem attrV_none (z : List UInt8) : attrV z [] = .tuple #[.string ⟨#[]⟩, .bool false] := by simp [attrV, attrR]
set_option maxHeartbeats 4000000 in
theorem writeAttr_of (name x y other : List UInt8) (w : World) (ok : Bool) (ov : List UInt8) (hA : attrV other [(x, y)] = .tuple #[.string ⟨ov.toArray⟩, .bool ok])
    (hok : (x = other ∧ true = ok ∧ y = ov) ∨ ((other == x) = false ∧ false = ok ∧ [] = ov)) :
    Calls Try.prog 6 #[.string ⟨name.toArray⟩, .agg #[.string ⟨x.toArray⟩, .string ⟨y.toArray⟩], .string ⟨other.toArray⟩] w fun e w' => e = .returned (.bool true) ∧ Below w.heap.size w w' := by
  have tok1 := Lib.hid True.intro
  replace hA := Lib.hid hA
  rcases hok with ⟨rfl, rfl, rfl⟩ | ⟨hne, rfl, rfl⟩
  all_goals (
    go_enter Try.func6, Try.ntmps6
    go_wp2_with fail
    go_region_held3 (fun W => W.cell? ⟨w.heap.size, 0, none⟩ = some (.string ⟨x.toArray⟩) ∧ W.cell? ⟨w.heap.size, 1, none⟩ = some (.string ⟨y.toArray⟩) ∧ Below w.heap.size w W) (first | assumption | exact ⟨by simp, by simp, (below1 w _).drew⟩) (fail)
    go_wp2_with (first
      | (go_at_call 9
         have m0 := tok1.out
         refine (element_any name _ _ [(x, y)] [] _ (at_one _ (w.heap.size + 1) (by simp <;> omega) 1 (by decide) (by decide) x y (by simp) (by simp)) (by simp) (tk_nil _ 0 (Nat.zero_le _)) (by simp) (by simp)).mono ?_
         rintro e w1 ⟨v1, rfl, hT1, hb1⟩
         clear tok1 m0
         obtain ⟨b, o, c, sv0, sv1, rfl, hb, hc2, hcm, c0, c1, c2, c3, d0, d1, d2, d3, hA0, hA1⟩ := hT1.two
         clear hT1
         have q1 : Hid (Below w.heap.size w w1) := Lib.hid (belowT (belowA (belowN (below1 w _) 1) _) hb1)
         replace hb1 := Lib.hid hb1
         replace hA0 := Lib.hid hA0
         replace hA1 := Lib.hid hA1
         have tok2 := Lib.hid True.intro)
      | (go_at_call 15
         have m0 := tok2.out
         refine (attr_any 1 x name [] [(x, y)] _ _ hA0.out).mono ?_
         rintro e w2 ⟨rfl, hb2⟩
         rw [attrV_hit]
         clear tok2 m0
         obtain ⟨hc2, -⟩ := bat hb2 b hb
         replace hA0 := Lib.hid (hA0.out.below hb2)
         replace hA1 := Lib.hid (hA1.out.below hb2)
         have q2 : Hid (Below w.heap.size w w2) := Lib.hid (belowT q1.out hb2)
         have hbb : b < w2.heap.size := Nat.lt_of_lt_of_le hb hb2.size
         replace hb2 := Lib.hid hb2
         have tok3 := Lib.hid True.intro)
      | (go_at_call 15
         have m0 := tok3.out
         refine (attr_any 1 _ name [] [(x, y)] _ _ hA0.out).mono ?_
         rintro e w3 ⟨rfl, hb3⟩
         rw [hA.out]
         clear tok3 m0
         obtain ⟨hc3, -⟩ := bat hb3 b hbb
         replace hA1 := Lib.hid (hA1.out.below hb3)
         have q3 : Hid (Below w.heap.size w w3) := Lib.hid (belowT q2.out hb3)
         replace hb3 := Lib.hid hb3
         have tok4 := Lib.hid True.intro)
      | (go_at_call 15
         have m0 := tok4.out
         refine (attr_any 2 x name [] [] _ _ hA1.out).mono ?_
         rintro e w4 ⟨rfl, hb4⟩
         rw [attrV_none]
         clear tok4 m0
         have q4 : Hid (Below w.heap.size w w4) := Lib.hid (belowT q3.out hb4)
         replace hb4 := Lib.hid hb4)
      | (go_at_call 11
         refine (live_any _).mono ?_
         rintro e w5 ⟨rfl, hb5⟩
         have q5 : Hid (Below w.heap.size w w5) := Lib.hid (belowT q4.out hb5)
         replace hb5 := Lib.hid hb5))
    go_ret
    exact ⟨rfl, q5.out⟩)
theorem writeAttr_walk (name x y other : List UInt8) (w : World) (_ : name.length ≤ 140737488351232) (_ : other.length ≤ 140737488351232) :
    Calls Try.prog 6 #[.string ⟨name.toArray⟩, .agg #[.string ⟨x.toArray⟩, .string ⟨y.toArray⟩], .string ⟨other.toArray⟩] w fun e w' => e = .returned (.bool true) ∧ Below w.heap.size w w' := by
  by_cases h : other = x
  · subst h
    exact writeAttr_of name other y other w true y (attrV_hit other y) (.inl ⟨rfl, rfl, rfl⟩)
  · exact writeAttr_of name x y other w false [] (attrV_miss x y other h) (.inr ⟨by simpa using h, rfl, rfl⟩)
end Go.Proofs.Ytfmheobofikkmaa
