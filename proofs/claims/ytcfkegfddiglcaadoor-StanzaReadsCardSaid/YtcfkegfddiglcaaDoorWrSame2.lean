/-
  write.Same: slices.EqualFunc with its literal.
-/
import Derived.Test.YtcfkegfddiglcaaDoorWrSame
namespace Go.Proofs.YtcfkegfddiglcaaDoor
set_option linter.unusedVariables false
set_option linter.unusedSimpArgs false
open Go.RowKit Go.MapKept Go.Shelf
def sameL : List Tk → List Tk → Bool
  | [], [] => true
  | x :: xs, y :: ys => x.same y && sameL xs ys
  | _, _ => false
theorem same_len : ∀ {a b : List Tk}, sameL a b = true → a.length = b.length
  | [], [], _ => rfl
  | x :: xs, y :: ys, h => by
    simp only [sameL, Bool.and_eq_true] at h
    simpa using same_len h.2
  | [], y :: ys, h => by simp [sameL] at h
  | x :: xs, [], h => by simp [sameL] at h
theorem same_each : ∀ {a b : List Tk}, sameL a b = true → ∀ i (h1 : i < a.length) (h2 : i < b.length), (a[i]'h1).same (b[i]'h2) = true
  | x :: xs, y :: ys, h, i, h1, h2 => by
    simp only [sameL, Bool.and_eq_true] at h
    cases i with
    | zero => exact h.1
    | succ i => exact same_each h.2 i (by simpa using h1) (by simpa using h2)
  | [], _, _, _, h1, _ => absurd h1 (by simp)
  | _ :: _, [], _, _, _, h2 => absurd h2 (by simp)
theorem same_of : ∀ {a b : List Tk}, a.length = b.length → (∀ i (h1 : i < a.length) (h2 : i < b.length), (a[i]'h1).same (b[i]'h2) = true) → sameL a b = true
  | [], [], _, _ => rfl
  | x :: xs, y :: ys, hl, h => by
    simp only [sameL, Bool.and_eq_true]
    exact ⟨h 0 (by simp) (by simp), same_of (by simpa using hl) fun i h1 h2 => h (i + 1) (by simpa using h1) (by simpa using h2)⟩
  | [], y :: ys, hl, _ => by simp at hl
  | x :: xs, [], hl, _ => by simp at hl
theorem same_not {a b : List Tk} {i : Nat} {h1 : i < a.length} {h2 : i < b.length} (h : (a[i]'h1).same (b[i]'h2) = false) : sameL a b = false := by
  cases e : sameL a b with
  | false => rfl
  | true => rw [same_each e i h1 h2] at h; cases h
theorem same_nlen {a b : List Tk} (h : a.length ≠ b.length) : sameL a b = false := by
  cases e : sameL a b with
  | false => rfl
  | true => exact absurd (same_len e) h
end Go.Proofs.YtcfkegfddiglcaaDoor
