/-
  What the program's functions on addresses compute: whether one is right, its print, its parse, its forms. Each string shorter than the reach.
-/
import Derived.Test.YtoijpjmkjhoiaaaJidWalks
import Derived.Test.YtoijpjmkjhoiaaaShelf
import Derived.WalkSpells
import Derived.BigQuiet
import Derived.Deep.QuietTactic
import Derived.Deep.RegionHeld3
namespace Go.Proofs.Ytoijpjmkjhoiaaa
set_option linter.unusedVariables false
set_option linter.unusedSimpArgs false
open Go.RowKit
set_option maxHeartbeats 2000000 in
theorem jidRight_any (l d r : List UInt8) (w : World) (h1 : l.length ≤ 140737488351232) (h2 : d.length ≤ 140737488351232) (h3 : r.length ≤ 140737488351232) :
    Calls Try.prog 59 #[.agg #[.string ⟨l.toArray⟩, .string ⟨d.toArray⟩, .string ⟨r.toArray⟩]] w fun e w' => e = .returned (.bool (rightJ l d r)) ∧ Below w.heap.size w w' := by
  have H0 : Hid (∀ o, Below w.heap.size w (w.alloc o)) := fun o => (Below.refl _ _).alloc (Nat.le_refl _) _
  by_cases hP : partP d && (l.isEmpty || partP l) && (r.isEmpty || partP r)
  · have hR : Hid (decide ((joinL l d r).length ≤ 64) = rightJ l d r) := by simp [Hid, rightJ, hP]
    simp only [Bool.and_eq_true, Bool.or_eq_true] at hP
    obtain ⟨⟨e1, e2⟩, e3⟩ := hP
    have g1 : d.length ≤ 64 := (partP_letters e1).2.2
    have g2 : l.length ≤ 64 := by rcases e2 with e | e; (simp at e; simp [e]); exact (partP_letters e).2.2
    have g3 : r.length ≤ 64 := by rcases e3 with e | e; (simp at e; simp [e]); exact (partP_letters e).2.2
    cases hl : l.isEmpty <;> cases hr : r.isEmpty <;> simp only [hl, hr, Bool.false_eq_true, false_or, true_or] at e2 e3
    all_goals
      go_enter Try.func59, Try.ntmps59
      go_wp2_with (first
        | (go_at_call 58; refine (part_any _ _ (by omega)).mono ?_; rintro e w' ⟨rfl, rfl⟩)
        | (go_at_call 80; refine (join_any _ _ _ _ (by omega) (by omega) (by omega)).mono ?_; rintro e w' ⟨rfl, hb⟩))
      go_ret
      refine ⟨ret_bool ?_, ((H0.out _).trans (hb.mono (by simp)))⟩
      rw [← hR.out, le64]
  · have hR : Hid (false = rightJ l d r) := by simp only [Bool.not_eq_true] at hP; simp [Hid, rightJ, hP]
    cases e1 : partP d
    · go_enter Try.func59, Try.ntmps59
      go_wp2_with (go_at_call 58; refine (part_any _ _ (by omega)).mono ?_; rintro e w' ⟨rfl, rfl⟩)
      go_ret
      exact ⟨ret_bool hR.out, H0.out _⟩
    · cases hl : l.isEmpty <;> cases e2 : partP l <;> cases hr : r.isEmpty <;> cases e3 : partP r
      all_goals simp only [e1, hl, e2, hr, e3, Bool.true_and, Bool.false_or, Bool.true_or, Bool.and_true, Bool.and_false, Bool.and_self, not_true_eq_false, not_false_eq_true, Bool.false_eq_true] at hP
      all_goals
        clear hP
        go_enter Try.func59, Try.ntmps59
        go_wp2_with (go_at_call 58; refine (part_any _ _ (by omega)).mono ?_; rintro e w' ⟨rfl, rfl⟩)
        go_ret
        exact ⟨ret_bool hR.out, H0.out _⟩
end Go.Proofs.Ytoijpjmkjhoiaaa
