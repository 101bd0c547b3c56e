/-
  What must be whatever is asked; a deed on both. Condition: both maps hold the same pairs.
-/
import Derived.Test.YtfeiihmhdcnabaaKvFork
namespace Go.Proofs.Ytfeiihmhdcnabaa
set_option linter.unusedVariables false
set_option linter.unusedSimpArgs false
open Go.RowKit Go.MapKept
theorem live_put : putE [] [97] [98] = ([([97], [98])], 0) := by decide
theorem live_bytes : bytesE [([97], [98])] = [1, 97, 0, 1, 98] := by decide
theorem live_p (g b : Nat) (w : World) (h : KvS w g b []) : Calls Try.prog 13 #[.pointer (some ⟨g, 0, none⟩), .string ⟨#[97]⟩, .string ⟨#[98]⟩] w fun e w' => e = .returned (.int .i64 0) ∧ KvS w' g b [([97], [98])] ∧ w.grownBy w' (some b) := by
  have hp := put_any g b [] [97] [98] w h (by decide) (by decide)
  rw [live_put] at hp
  exact hp
theorem live_g (g b : Nat) (w : World) (h : KvS w g b [([97], [98])]) : Calls Try.prog 19 #[.pointer (some ⟨g, 0, none⟩), .string ⟨#[97]⟩] w fun e w' => e = .returned (.tuple #[.string ⟨#[98]⟩, .bool true]) ∧ w' = w := get_any g b _ [97] _ h (by decide)
theorem live_s (g b : Nat) (w : World) (h : KvS w g b [([97], [98])]) : Calls Try.prog 27 #[.pointer (some ⟨g, 0, none⟩)] w fun e w' => e = .returned (.int .i64 5) ∧ Below w.heap.size w w' := size_any g b _ w h
theorem live_b (g b : Nat) (w : World) (h : KvS w g b [([97], [98])]) : Calls Try.prog 23 #[.pointer (some ⟨g, 0, none⟩)] w fun e w' => ∃ sv, e = .returned sv ∧ (∀ W : World, Below w'.heap.size w' W → (convert 26 9 sv).run Try.prog W = .ok (.string ⟨#[1, 97, 0, 1, 98]⟩) W) ∧ Below w.heap.size w w' :=
  (bytes_any g b _ w h).mono fun e w' ⟨sv, h1, h2, h3⟩ => ⟨sv, h1, fun W hb => ((BySl.of_own h2).below hb).string, h3⟩
set_option maxRecDepth 100000 in
theorem live_kv (w : World) : Calls Try.prog 14 #[] w fun e w' => e = .returned (.bool true) ∧ Below w.heap.size w w' := by
  have hB0 := Lib.hid (Below.refl w.heap.size w)
  go_enter Try.func14, Try.ntmps14
  go_wp2_with (first
    | (have m0 := hB5; go_at_call 27; refine (live_s g b _ hK4.out).mono ?_; rintro e w6 ⟨rfl, hbn⟩; have hB6 := Lib.hid (belowT hB5.out hbn); clear hbn)
    | (have m0 := hB3; go_at_call 23; refine (live_b g b _ hK2.out).mono ?_; rintro e w5 ⟨sv, rfl, hO, hbn⟩; have hcv := hO w5 (Below.refl _ _); clear hO; have hK4 := Lib.hid (hK2.out.below hbn); have hB5 := Lib.hid (belowT hB3.out hbn); clear hbn)
    | (have m0 := hB2; go_at_call 19; refine (live_g g b _ hK2.out).mono ?_; rintro e w4 ⟨rfl, rfl⟩; have hB3 := hB2)
    | (have m0 := hB1; go_at_call 13; refine (live_p g b _ hK1.out).mono ?_; rintro e w3 ⟨rfl, hK2, hg⟩; replace hK2 := Lib.hid hK2; have hB2 := Lib.hid (hB1.out.grown hg hB1.out.size (fun k e => by cases e; exact hbb)); clear hg)
    | (have m0 := hB0; go_at_call 12; refine (new_any w).mono ?_; rintro e w2 ⟨g, b, rfl, hgg, hbb, hK1, hbn⟩; replace hK1 := Lib.hid hK1; have hB1 := Lib.hid hbn; clear hbn))
  go_ret
  exact ⟨rfl, hB6.out⟩
end Go.Proofs.Ytfeiihmhdcnabaa
