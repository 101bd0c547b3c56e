/-
  The reference's Add. Condition: at most 1000 edges.
-/
import Derived.Test.YtgodmppmiamhaaaCoRef6
namespace Go.Proofs.Ytgodmppmiamhaaa
set_option linter.unusedVariables false
set_option linter.unusedSimpArgs false
open Go.RowKit Go.MapKept Go.Shelf
theorem ins_all {c p : Txt} {R : Ats} : ∀ {P : Ats}, (∀ x ∈ P, x.1 < c) → insE c p (P ++ R) = P ++ insE c p R
  | [], _ => rfl
  | h :: P, hp => by
    have h0 : h.1 < c := hp h (by simp)
    have h1 : ¬ c < h.1 := fun h' => tl_irrefl c (tl_trans h' h0)
    have h2 : ¬ c = h.1 := fun e => tl_irrefl c (by rw [← e] at h0; exact h0)
    show (if c < h.1 then _ else if c = h.1 then _ else h :: insE c p (P ++ R)) = _
    rw [if_neg h1, if_neg h2, ins_all (fun x hx => hp x (by simp [hx]))]
    rfl
theorem ins_some {c p : Txt} {R : Ats} : ∀ {P : Ats}, (∃ x ∈ P, ¬ x.1 < c) → insE c p (P ++ R) = insE c p P ++ R
  | [], h => by obtain ⟨x, hx, _⟩ := h; cases hx
  | h :: P, hp => by
    show (if c < h.1 then (c, p) :: h :: (P ++ R) else if c = h.1 then (c, p) :: (P ++ R) else h :: insE c p (P ++ R)) = (if c < h.1 then (c, p) :: h :: P else if c = h.1 then (c, p) :: P else h :: insE c p P) ++ R
    by_cases h1 : c < h.1
    · rw [if_pos h1, if_pos h1]; rfl
    · by_cases h2 : c = h.1
      · rw [if_neg h1, if_neg h1, if_pos h2, if_pos h2]; rfl
      · rw [if_neg h1, if_neg h1, if_neg h2, if_neg h2]
        have : insE c p (P ++ R) = insE c p P ++ R := ins_some (by
          obtain ⟨x, hx, hn⟩ := hp
          rcases List.mem_cons.1 hx with rfl | hx
          · rcases tl_tri x.1 c with h | h | h
            · exact absurd h hn
            · exact absurd h.symm h2
            · exact absurd h h1
          · exact ⟨x, hx, hn⟩)
        rw [this]; rfl
/-- has it been placed behind k edges? -/
def plE (E : Ats) (c : Txt) (k : Nat) : Bool := (E.take k).any fun e => !decide (e.1 < c)
def outE (E : Ats) (c p : Txt) (k : Nat) : Ats := if plE E c k then insE c p (E.take k) else E.take k
theorem take_snoc {E : Ats} {k : Nat} (h : k < E.length) : E.take (k + 1) = E.take k ++ [E[k]'h] := by rw [List.take_add_one, List.getElem?_eq_getElem h]; rfl
theorem pl_snoc {E : Ats} {c : Txt} {k : Nat} (h : k < E.length) : plE E c (k + 1) = (plE E c k || !decide ((E[k]'h).1 < c)) := by
  unfold plE
  rw [take_snoc h, List.any_append]
  simp
theorem pl_true {E : Ats} {c : Txt} {k : Nat} (h : plE E c k = true) : ∃ x ∈ E.take k, ¬ x.1 < c := by
  obtain ⟨x, hx, h2⟩ := List.any_eq_true.1 h
  exact ⟨x, hx, by simpa using h2⟩
theorem pl_false {E : Ats} {c : Txt} {k : Nat} (h : plE E c k = false) : ∀ x ∈ E.take k, x.1 < c := by
  intro x hx
  have := List.any_eq_false.1 h x hx
  simpa using this
theorem pl_after {E : Ats} {c : Txt} {k : Nat} (hs : sortE E) (hk : k < E.length) (h : plE E c k = true) : c < (E[k]'hk).1 := by
  obtain ⟨x, hx, hn⟩ := pl_true h
  obtain ⟨i, hi, rfl⟩ := List.getElem_of_mem hx
  rw [List.getElem_take] at hn
  have hik : i < k := by simp at hi; omega
  have := sort_at hs hik hk
  rcases tl_tri (E[i]'(by omega)).1 c with h | h | h
  · exact absurd h hn
  · rw [← h]; exact this
  · exact tl_trans h this
/-- placed: go on as it stands -/
theorem out_go {E : Ats} {c p : Txt} {k : Nat} (hs : sortE E) (hk : k < E.length) (h : plE E c k = true) : plE E c (k + 1) = true ∧ (E[k]'hk).1 ≠ c ∧ outE E c p (k + 1) = outE E c p k ++ [E[k]'hk] := by
  have h1 : plE E c (k + 1) = true := by rw [pl_snoc hk, h]; rfl
  refine ⟨h1, fun e => tl_irrefl c (by have := pl_after hs hk h; rwa [e] at this), ?_⟩
  unfold outE
  rw [h1, h, if_pos rfl, if_pos rfl, take_snoc hk]
  exact ins_some (pl_true h)
/-- not placed, and before -/
theorem out_before {E : Ats} {c p : Txt} {k : Nat} (hk : k < E.length) (h : plE E c k = false) (hlt : (E[k]'hk).1 < c) : plE E c (k + 1) = false ∧ (E[k]'hk).1 ≠ c ∧ outE E c p (k + 1) = outE E c p k ++ [E[k]'hk] := by
  have h1 : plE E c (k + 1) = false := by rw [pl_snoc hk, h, decide_eq_true hlt]; rfl
  refine ⟨h1, fun e => tl_irrefl c (by rwa [e] at hlt), ?_⟩
  unfold outE
  rw [h1, h, if_neg (by simp), if_neg (by simp), take_snoc hk]
/-- not placed, and here -/
theorem out_here {E : Ats} {c p : Txt} {k : Nat} (hk : k < E.length) (h : plE E c k = false) (hlt : ¬ (E[k]'hk).1 < c) : plE E c (k + 1) = true ∧ outE E c p (k + 1) = outE E c p k ++ ((c, p) :: if (E[k]'hk).1 = c then [] else [E[k]'hk]) := by
  have h1 : plE E c (k + 1) = true := by rw [pl_snoc hk, h, decide_eq_false hlt]; rfl
  refine ⟨h1, ?_⟩
  unfold outE
  rw [h1, h, if_pos rfl, if_neg (by simp), take_snoc hk, ins_all (pl_false h)]
  congr 1
  show (if c < (E[k]'hk).1 then _ else if c = (E[k]'hk).1 then _ else _) = _
  by_cases he : (E[k]'hk).1 = c
  · rw [if_pos he, if_neg (by rw [he]; exact tl_irrefl c), if_pos he.symm]
  · rw [if_neg he, if_pos (by
      rcases tl_tri (E[k]'hk).1 c with h | h | h
      · exact absurd h hlt
      · exact absurd h he
      · exact h)]
theorem out_end {E : Ats} {c p : Txt} : insE c p E = if plE E c E.length then outE E c p E.length else outE E c p E.length ++ [(c, p)] := by
  unfold outE
  rw [List.take_length]
  cases h : plE E c E.length with
  | true => rw [if_pos rfl, if_pos rfl]
  | false =>
    rw [if_neg (by simp), if_neg (by simp)]
    have h2 := pl_false h
    rw [List.take_length] at h2
    have := ins_all (p := p) (R := []) h2
    rw [List.append_nil] at this
    rw [this]; rfl
theorem out_len {E : Ats} {c p : Txt} {k : Nat} (hs : sortE E) (hk : k ≤ E.length) : (outE E c p k).length ≤ k + 1 := by
  unfold outE
  have hst : sortE (E.take k) := List.Pairwise.sublist (List.take_sublist _ _) hs
  have hl : (E.take k).length ≤ k := by rw [List.length_take]; omega
  split
  · rw [ins_len c p hst]; split <;> omega
  · omega
end Go.Proofs.Ytgodmppmiamhaaa
