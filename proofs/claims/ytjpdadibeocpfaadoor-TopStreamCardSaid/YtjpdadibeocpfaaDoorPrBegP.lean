/-
  A start tag's inside: its attributes' names apart, what it ends on. Plain lists, no condition.
-/
import Derived.Test.YtjpdadibeocpfaaDoorPbC
import Derived.Lib.Strings
namespace Go.Proofs.YtjpdadibeocpfaaDoor
set_option linter.unusedVariables false
set_option linter.unusedSimpArgs false
theorem xattrs_apart : ∀ (seen : List (List UInt8)) (al : Ats), attrsP seen al = true → ∀ i (hi : i < al.length), (∀ x ∈ seen, x ≠ (al[i]'hi).1) ∧ ∀ j (hj : j < al.length), j < i → (al[j]'hj).1 ≠ (al[i]'hi).1
  | _, [], _, i, hi => absurd hi (by simp)
  | seen, q :: r, h, i, hi => by
    rw [attrsP] at h
    simp only [Bool.and_eq_true, decide_eq_true_eq, Bool.not_eq_true'] at h
    obtain ⟨⟨⟨⟨h1, -⟩, -⟩, -⟩, h5⟩ := h
    cases i with
    | zero =>
      refine ⟨fun x hx e => ?_, fun j _ hj => absurd hj (by omega)⟩
      have : seen.contains q.1 = true := by rw [List.contains_iff_mem]; rw [← show x = q.1 from e]; exact hx
      rw [this] at h1; cases h1
    | succ i =>
      have ih := xattrs_apart (seen ++ [q.1]) r h5 i (by simpa using hi)
      refine ⟨fun x hx => ih.1 x (by simp [hx]), fun j hj hji => ?_⟩
      cases j with
      | zero => exact ih.1 q.1 (by simp)
      | succ j => exact ih.2 j (by simpa using hj) (by omega)
theorem xattrs_len {al : Ats} (h : attrsP [] al = true) : al.length ≤ 8 := by
  have := (attrsP_each [] al h (by simp)).1
  simpa using this
/-- what stands behind a tag's name is no part of it -/
theorem xats_head (al : Ats) (c : UInt8) (r : List UInt8) (hc : nameC c = false) : ∃ c' r', atsL al ++ c :: r = c' :: r' ∧ nameC c' = false := by
  cases al with
  | nil => exact ⟨c, r, rfl, hc⟩
  | cons p q => exact ⟨32, (p.1 ++ [61, 39] ++ escL p.2 ++ [39]) ++ (atsL q ++ c :: r), by simp [atsL, atP], by decide⟩
theorem xats_last : ∀ (al : Ats), atsL al = [] ∨ ∃ r, atsL al = r ++ [39]
  | [] => .inl rfl
  | p :: q => by
    refine .inr ?_
    have e : atsL (p :: q) = atP p ++ atsL q := by unfold atsL; rw [List.flatMap_cons]
    rcases xats_last q with h | ⟨r, h⟩
    · exact ⟨[32] ++ p.1 ++ [61, 39] ++ escL p.2, by rw [e, h, List.append_nil]; rfl⟩
    · exact ⟨atP p ++ r, by rw [e, h, List.append_assoc]⟩
/-- a printed start tag's inside does not end on a slash -/
theorem no_slash {n : List UInt8} {al : Ats} (hn : nameP n = true) : Lib.hasSuffix (n ++ atsL al) [47] = false := by
  have hl : ∀ (r : List UInt8) (c : UInt8), c ≠ 47 → Lib.hasSuffix (r ++ [c]) [47] = false := fun r c hc => by
    have h : ¬ [47] <:+ r ++ [c] := fun ⟨t, h⟩ => by
      have := congrArg List.getLast? h
      simp at this
      exact hc this.symm
    unfold Lib.hasSuffix
    rw [Bool.eq_false_iff]
    intro e
    exact h (List.isSuffixOf_iff_suffix.1 e)
  rcases xats_last al with h | ⟨r, h⟩
  · rw [h, List.append_nil]
    obtain ⟨hne, -, -⟩ := name_bytes hn
    have e := List.dropLast_concat_getLast hne
    rw [← e]
    exact hl _ _ (nameC_ne (name_all hn _ (List.getLast_mem hne))).2.2.2.2.2.2.1
  · rw [h, ← List.append_assoc]
    exact hl _ _ (by decide)
end Go.Proofs.YtjpdadibeocpfaaDoor
