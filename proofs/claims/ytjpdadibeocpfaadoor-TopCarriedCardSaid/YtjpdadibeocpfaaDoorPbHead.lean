/-
  A text's head of bytes of a kind; blanks and name bytes; how long a tag's parts are. Plain lists, no condition.
-/
import Derived.Test.YtjpdadibeocpfaaDoorPbC
namespace Go.Proofs.YtjpdadibeocpfaaDoor
set_option linter.unusedVariables false
set_option linter.unusedSimpArgs false
def blC (c : UInt8) : Bool := decide (c = 32 ∨ c = 9 ∨ c = 10 ∨ c = 13)
def headN (f : UInt8 → Bool) (s : List UInt8) : Nat := (s.takeWhile f).length
def headTo (f : UInt8 → Bool) (s : List UInt8) (k : Nat) : Prop := ∀ i (h : i < s.length), i < k → f (s[i]'h) = true
theorem head_end {f : UInt8 → Bool} : ∀ {s : List UInt8} {k : Nat}, k ≤ s.length → headTo f s k → (∀ h : k < s.length, f (s[k]'h) = false) → headN f s = k
  | [], k, hk, _, _ => by
    have : k = 0 := by simpa using hk
    subst this; rfl
  | c :: s, 0, _, _, h => by
    have := h (by simp)
    simp only [List.getElem_cons_zero] at this
    simp [headN, this]
  | c :: s, k + 1, hk, ht, h => by
    have h0 := ht 0 (by simp) (by omega)
    simp only [List.getElem_cons_zero] at h0
    have ih := head_end (f := f) (s := s) (k := k) (by simpa using hk) (fun i hi hik => by have := ht (i + 1) (by simpa using hi) (by omega); simpa using this) (fun hk' => by have := h (by simpa using hk'); simpa using this)
    unfold headN at ih ⊢
    rw [List.takeWhile_cons, if_pos h0, List.length_cons, ih]
theorem headTo_snoc {f : UInt8 → Bool} {s : List UInt8} {k : Nat} (h : headTo f s k) (hk : k < s.length) (hc : f (s[k]'hk) = true) : headTo f s (k + 1) := by
  intro i hi hik
  rcases Nat.lt_or_ge i k with h1 | h1
  · exact h i hi h1
  · have : i = k := by omega
    subst this
    exact hc
theorem head_app {f : UInt8 → Bool} {a : List UInt8} {c : UInt8} {r : List UInt8} (h : ∀ b ∈ a, f b = true) (hc : f c = false) : headN f (a ++ c :: r) = a.length := by
  unfold headN
  induction a with
  | nil => simp [hc]
  | cons x a ih =>
    rw [List.cons_append, List.takeWhile_cons, if_pos (h x (by simp)), List.length_cons, ih fun b hb => h b (by simp [hb])]
    rfl
theorem head_0 {f : UInt8 → Bool} {c : UInt8} {r : List UInt8} (hc : f c = false) : headN f (c :: r) = 0 := head_app (a := []) (by simp) hc
theorem nameC_bl {c : UInt8} (h : nameC c = true) : blC c = false := by
  have := nameC_ne h
  unfold blC
  rw [decide_eq_false_iff_not]
  rintro (e | e | e | e) <;> subst e <;> revert h <;> decide
theorem esc_len_le (v : List UInt8) (h : fitsP v = true) : (escL v).length ≤ 3072 := by
  have := fitsP_len h
  have := escL_len v
  omega
theorem atsL_len : ∀ {al : Ats}, (∀ p ∈ al, nameP p.1 = true ∧ fitsP p.2 = true) → (atsL al).length ≤ 4000 * al.length
  | [], _ => by simp [atsL]
  | p :: r, h => by
    have e : atsL (p :: r) = atP p ++ atsL r := by unfold atsL; rw [List.flatMap_cons]
    have ih := atsL_len (al := r) fun q hq => h q (by simp [hq])
    have h1 := esc_len_le p.2 (h p (by simp)).2
    have h2 := nameP_len (h p (by simp)).1
    rw [e, List.length_append, List.length_cons]
    simp only [atP, List.length_append, List.length_cons, List.length_nil]
    omega
end Go.Proofs.YtjpdadibeocpfaaDoor
