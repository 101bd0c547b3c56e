/-
  Chains of a function that may have no answer: where they end, that they close no circle, and that one link more closes none (plain). No program, no condition.
-/
import Derived.Test.YtgodmppmiamhaaaBase
namespace Go.Proofs.Ytgodmppmiamhaaa
set_option linter.unusedVariables false
set_option linter.unusedSimpArgs false
section
variable {α : Type}
/-- n steps on -/
def itF (f : α → Option α) : Nat → α → Option α
  | 0, x => some x
  | n + 1, x => (f x).bind (itF f n)
/-- what is above, the nearest first, at most n -/
def upF (f : α → Option α) : Nat → α → List α
  | 0, _ => []
  | n + 1, x => match f x with
    | none => []
    | some p => p :: upF f n p
theorem itF_add (f : α → Option α) : ∀ (a b : Nat) (x : α), itF f (a + b) x = (itF f a x).bind (itF f b)
  | 0, b, x => by rw [Nat.zero_add]; rfl
  | a + 1, b, x => by
    rw [show a + 1 + b = (a + b) + 1 by omega]
    show (f x).bind (itF f (a + b)) = ((f x).bind (itF f a)).bind (itF f b)
    cases f x with
    | none => rfl
    | some p => exact itF_add f a b p
theorem mem_upF (f : α → Option α) : ∀ (n : Nat) (x b : α), b ∈ upF f n x ↔ ∃ m, 1 ≤ m ∧ m ≤ n ∧ itF f m x = some b
  | 0, x, b => by
    constructor
    · intro h; cases h
    · rintro ⟨m, h1, h2, -⟩; omega
  | n + 1, x, b => by
    unfold upF
    cases hf : f x with
    | none =>
      simp only [List.not_mem_nil, false_iff]
      rintro ⟨m, h1, -, h⟩
      obtain ⟨k, rfl⟩ : ∃ k, m = k + 1 := ⟨m - 1, by omega⟩
      rw [itF, hf] at h
      cases h
    | some p =>
      simp only [List.mem_cons, mem_upF f n p b]
      constructor
      · rintro (rfl | ⟨m, h1, h2, h⟩)
        · exact ⟨1, Nat.le_refl _, by omega, by rw [itF, hf]; rfl⟩
        · exact ⟨m + 1, by omega, by omega, by rw [itF, hf]; exact h⟩
      · rintro ⟨m, h1, h2, h⟩
        obtain ⟨k, rfl⟩ : ∃ k, m = k + 1 := ⟨m - 1, by omega⟩
        rw [itF, hf] at h
        replace h : itF f k p = some b := h
        cases k with
        | zero => left; injection h with h; exact h.symm
        | succ k => right; exact ⟨k + 1, by omega, by omega, h⟩
theorem itF_some {f : α → Option α} {n m : Nat} {x b : α} (h : itF f n x = some b) (hm : m ≤ n) : ∃ y, itF f m x = some y ∧ itF f (n - m) y = some b := by
  have e : n = m + (n - m) := by omega
  rw [e, itF_add] at h
  cases hy : itF f m x with
  | none => rw [hy] at h; cases h
  | some y => rw [hy] at h; exact ⟨y, rfl, h⟩
theorem nodup_len [DecidableEq α] : ∀ {l m : List α}, l.Nodup → (∀ x ∈ l, x ∈ m) → l.length ≤ m.length
  | [], m, _, _ => Nat.zero_le _
  | a :: l, m, hd, hs => by
    obtain ⟨ha, hd'⟩ := List.nodup_cons.1 hd
    have h1 : a ∈ m := hs a (by simp)
    have := nodup_len (l := l) (m := m.erase a) hd' (fun x hx => (List.mem_erase_of_ne (fun e => ha (by rw [← e]; exact hx))).2 (hs x (by simp [hx])))
    rw [List.length_erase_of_mem h1] at this
    have h2 : 0 < m.length := List.length_pos_of_mem h1
    simp only [List.length_cons]
    omega
/-- no circle of at most N steps, N links: no way is longer than N -/
theorem way_len [DecidableEq α] {f : α → Option α} {S : List α} (hS : ∀ x p, f x = some p → x ∈ S) (hc : ∀ k x, 1 ≤ k → k ≤ S.length → itF f k x ≠ some x) {m : Nat} {x b : α} (h : itF f m x = some b) : m ≤ S.length := by
  rcases Nat.lt_or_ge S.length m with hm | hm
  · exfalso
    let g : Nat → α := fun i => (itF f i x).getD x
    have hg : ∀ i, i ≤ m → itF f i x = some (g i) := fun i hi => by
      obtain ⟨y, hy, -⟩ := itF_some h hi
      simp [g, hy]
    have hd : ((List.range (S.length + 1)).map g).Nodup := by
      rw [List.Nodup, List.pairwise_iff_getElem]
      intro i j hi hj hij
      simp only [List.length_map, List.length_range] at hi hj
      simp only [List.getElem_map, List.getElem_range]
      intro e
      have h1 := hg i (by omega)
      have h2 := hg j (by omega)
      rw [show j = i + (j - i) by omega, itF_add, h1, ← show j = i + (j - i) by omega] at h2
      exact hc (j - i) (g i) (by omega) (by omega) (by rw [e] at h2 ⊢; exact h2)
    have hl := nodup_len hd (m := S) (fun y hy => by
      obtain ⟨i, hi, rfl⟩ := List.mem_map.1 hy
      have hi' := List.mem_range.1 hi
      have h1 := hg i (by omega)
      have h2 := hg (i + 1) (by omega)
      rw [itF_add, h1] at h2
      replace h2 : (f (g i)).bind (itF f 0) = some (g (i + 1)) := h2
      cases hf : f (g i) with
      | none => rw [hf] at h2; cases h2
      | some p => exact hS _ _ hf)
    simp at hl
    omega
  · exact hm
theorem itF_mul {f : α → Option α} {k : Nat} {x : α} (h : itF f k x = some x) : ∀ n, itF f (k * n) x = some x
  | 0 => rfl
  | n + 1 => by rw [Nat.mul_add, Nat.mul_one, itF_add, itF_mul h n]; exact h
theorem no_circle [DecidableEq α] {f : α → Option α} {S : List α} (hS : ∀ x p, f x = some p → x ∈ S) (hc : ∀ k x, 1 ≤ k → k ≤ S.length → itF f k x ≠ some x) : ∀ k x, 1 ≤ k → itF f k x ≠ some x := by
  intro k x hk h
  have := way_len hS hc (itF_mul h (S.length + 1))
  have h2 : S.length + 1 ≤ k * (S.length + 1) := Nat.le_mul_of_pos_left _ hk
  omega
theorem itF_agree {f f' : α → Option α} {c : α} (hf : ∀ x, x ≠ c → f' x = f x) : ∀ (k : Nat) (x : α), (∀ i, i < k → itF f' i x ≠ some c) → itF f k x = itF f' k x
  | 0, x, _ => rfl
  | k + 1, x, h => by
    have hx : x ≠ c := fun e => h 0 (by omega) (by rw [e]; rfl)
    rw [itF, itF, hf x hx]
    cases hfx : f x with
    | none => rfl
    | some p => exact itF_agree hf k p (fun i hi e => h (i + 1) (by omega) (by rw [itF, hf x hx, hfx]; exact e))
theorem first_to {f f' : α → Option α} {c : α} (hf : ∀ x, x ≠ c → f' x = f x) (p : α) (hne : p ≠ c) : ∀ (n m : Nat), m ≤ n → itF f' m p = some c → ∃ k, 1 ≤ k ∧ itF f k p = some c
  | 0, m, hm, h => by
    obtain rfl : m = 0 := by omega
    injection h with h
    exact absurd h hne
  | n + 1, m, hm, h => by
    by_cases hv : ∃ i, i < m ∧ itF f' i p = some c
    · obtain ⟨i, hi, hic⟩ := hv
      exact first_to hf p hne n i (by omega) hic
    · refine ⟨m, ?_, ?_⟩
      · rcases Nat.eq_zero_or_pos m with rfl | h0
        · injection h with h; exact absurd h hne
        · exact h0
      · rw [itF_agree hf m p (fun i hi e => hv ⟨i, hi, e⟩)]
        exact h
/-- ONE LINK MORE, from c to p, closes no circle if c is not p and not above p -/
theorem one_more {f f' : α → Option α} {c p : α} (hc : f' c = some p) (hf : ∀ x, x ≠ c → f' x = f x) (hne : p ≠ c) (hac : ∀ k x, 1 ≤ k → itF f k x ≠ some x) (hup : ∀ k, 1 ≤ k → itF f k p ≠ some c) : ∀ k x, 1 ≤ k → itF f' k x ≠ some x := by
  intro k x hk h
  by_cases hv : ∃ i, i < k ∧ itF f' i x = some c
  · obtain ⟨i, hi, hix⟩ := hv
    obtain ⟨y, hy, hy2⟩ := itF_some h (Nat.le_of_lt hi)
    rw [hix] at hy
    injection hy with hy
    subst hy
    have hcc : itF f' k c = some c := by
      have e : k = (k - i) + i := by omega
      rw [e, itF_add, hy2]
      exact hix
    obtain ⟨j, rfl⟩ : ∃ j, k = j + 1 := ⟨k - 1, by omega⟩
    rw [itF, hc] at hcc
    replace hcc : itF f' j p = some c := hcc
    obtain ⟨m, h1, h2⟩ := first_to hf p hne j j (Nat.le_refl _) hcc
    exact hup m h1 h2
  · have := itF_agree hf k x (fun i hi e => hv ⟨i, hi, e⟩)
    rw [h] at this
    exact hac k x hk this
end
end Go.Proofs.Ytgodmppmiamhaaa
