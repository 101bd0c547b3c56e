/-
  Nodes (plain): who has which role, who has subscribed, who may read. No program's text, no condition.
-/
import Derived.Test.YtoijpjmkjhoiaaaWrTok
namespace Go.Proofs.Ytoijpjmkjhoiaaa
set_option linter.unusedVariables false
set_option linter.unusedSimpArgs false
open Go.RowKit Go.MapKept
abbrev Tx := List UInt8
structure Nd where
  nm : Tx
  co : Bool
  ac : Nat
  mx : Int
  af : List (Tx × Nat)
  sb : List (Tx × Bool × Int)
  pa : Tx
def roleN (n : Nd) (who : Tx) : Nat := ((n.af.find? fun p => p.1 == who).map (·.2)).getD 2
def subN (n : Nd) (who : Tx) : Option (Tx × Bool × Int) := n.sb.find? fun p => p.1 == who
def readsN (n : Nd) (who : Tx) : Bool :=
  if roleN n who = 1 then false else if 2 < roleN n who then true else
    n.ac == 0 || (n.ac == 1 && (match subN n who with | some s => !s.2.1 | none => false))
/-- the first that meets a question, by its place -/
theorem find_at {α : Type} {l : List α} {q : α → Bool} {k : Nat} (hk : k < l.length) (h1 : q (l[k]'hk) = true) (h2 : ∀ j (h : j < l.length), j < k → q (l[j]'h) = false) : l.find? q = some (l[k]'hk) := by
  induction l generalizing k with
  | nil => simp at hk
  | cons x t ih =>
    cases k with
    | zero => simp only [List.getElem_cons_zero] at h1 ⊢; rw [List.find?_cons, h1]
    | succ k =>
      have h0 := h2 0 (by simp) (by omega)
      simp only [List.getElem_cons_zero] at h0
      rw [List.find?_cons, h0]
      simp only [List.getElem_cons_succ] at h1 ⊢
      exact ih (by simpa using hk) h1 (fun j h hj => by have := h2 (j + 1) (by simpa using h) (by omega); simpa using this)
theorem find_no {α : Type} {l : List α} {q : α → Bool} (h : ∀ j (h : j < l.length), q (l[j]'h) = false) : l.find? q = none := by
  rw [List.find?_eq_none]
  intro x hx
  obtain ⟨i, hi, rfl⟩ := List.getElem_of_mem hx
  simp [h i hi]
end Go.Proofs.Ytoijpjmkjhoiaaa
