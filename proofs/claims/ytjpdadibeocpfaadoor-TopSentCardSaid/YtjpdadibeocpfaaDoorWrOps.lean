/-
  What is open behind tokens, in plain words; one behind the other. No condition.
-/
import Derived.Test.YtjpdadibeocpfaaDoorWhA
namespace Go.Proofs.YtjpdadibeocpfaaDoor
set_option linter.unusedVariables false
set_option linter.unusedSimpArgs false
theorem opsTo_none {l : List Tk} {m : Nat} (h : opsTo l m = none) : ∀ j, opsTo l (m + j) = none
  | 0 => h
  | j + 1 => by rw [← Nat.add_assoc, opsTo, opsTo_none h j]
theorem opsTo_some {l : List Tk} {m n : Nat} (hm : m ≤ n) (h : (opsTo l n).isSome = true) : (opsTo l m).isSome = true := by
  cases e : opsTo l m with
  | some x => rfl
  | none =>
    have := opsTo_none e (n - m)
    rw [show m + (n - m) = n by omega] at this
    rw [this] at h
    cases h
theorem right_each {l : List Tk} (h : (opsTo l l.length).isSome = true) (i : Nat) (hi : i < l.length) : rightT (l[i]'hi) = true := by
  have h1 := opsTo_some (m := i + 1) (by omega) h
  have h0 := opsTo_some (m := i) (by omega) h
  obtain ⟨op, hop⟩ := Option.isSome_iff_exists.1 h0
  rw [opsTo, hop, List.getElem?_eq_getElem hi] at h1
  simp only [stepT] at h1
  cases hr : rightT (l[i]'hi) with
  | true => rfl
  | false => rw [if_pos hr] at h1; cases h1
theorem right_kind {tk : Tk} (h : rightT tk = true) : tk.k = 1 ∨ tk.k = 2 ∨ tk.k = 3 := by
  unfold rightT at h
  split at h
  · exact .inr (.inr (by assumption))
  split at h
  · exact .inr (.inl (by assumption))
  split at h
  · exact .inl (by assumption)
  · cases h
/-- behind a beginning comes something -/
theorem right_next {l : List Tk} (h : opsTo l l.length = some []) (i : Nat) (hi : i < l.length) (hk : (l[i]'hi).k = 1) : i + 1 < l.length := by
  rcases Nat.lt_or_ge (i + 1) l.length with h' | h'
  · exact h'
  · have e : l.length = i + 1 := by omega
    rw [e, opsTo] at h
    split at h
    · rename_i op tk h0 htk
      rw [List.getElem?_eq_getElem hi] at htk
      injection htk with htk
      subst htk
      unfold stepT at h
      split at h
      · cases h
      split at h
      · injection h with h; simp at h
      split at h
      · rename_i h2; rw [hk] at h2; exact absurd h2.1 (by decide)
      split at h
      · rename_i h2; rw [hk] at h2; exact absurd h2.1 (by decide)
      · cases h
    · cases h
theorem nameP_len {n : List UInt8} (h : nameP n = true) : n.length ≤ 32 := by
  simp only [nameP, Bool.and_eq_true, decide_eq_true_eq] at h
  exact h.2
theorem fitsP_len {s : List UInt8} (h : fitsP s = true) : s.length ≤ 512 := by
  simp only [fitsP, Bool.and_eq_true, decide_eq_true_eq] at h
  exact h.1
theorem attrsP_each : ∀ (seen : List (List UInt8)) (al : Ats), attrsP seen al = true → seen.length ≤ 8 → seen.length + al.length ≤ 8 ∧ ∀ p ∈ al, p.1.length ≤ 32 ∧ p.2.length ≤ 512
  | seen, [], _, h => ⟨by simpa using h, fun _ h => by cases h⟩
  | seen, p :: r, h, h8 => by
    rw [attrsP] at h
    simp only [Bool.and_eq_true, decide_eq_true_eq] at h
    obtain ⟨⟨⟨⟨_, hn⟩, hf⟩, hl⟩, hr⟩ := h
    have ih := attrsP_each (seen ++ [p.1]) r hr (by simp; omega)
    simp only [List.length_append, List.length_cons, List.length_nil] at ih ⊢
    refine ⟨by omega, fun q hq => ?_⟩
    rcases List.mem_cons.1 hq with rfl | hq
    · exact ⟨nameP_len hn, fitsP_len hf⟩
    · exact ih.2 q hq
/-- a right token is small -/
theorem right_small {tk : Tk} (h : rightT tk = true) : tk.n.length ≤ 32 ∧ tk.t.length ≤ 512 ∧ tk.as.length ≤ 8 ∧ ∀ p ∈ tk.as, p.1.length ≤ 32 ∧ p.2.length ≤ 512 := by
  unfold rightT at h
  split at h
  · simp only [Bool.and_eq_true, beq_iff_eq, List.isEmpty_iff] at h
    obtain ⟨⟨⟨h1, h2⟩, _⟩, h4⟩ := h
    rw [h1, h2]
    exact ⟨by simp, fitsP_len h4, by simp, fun _ h => by cases h⟩
  split at h
  · simp only [Bool.and_eq_true, beq_iff_eq, List.isEmpty_iff] at h
    obtain ⟨⟨h1, h2⟩, h3⟩ := h
    rw [h2, h3]
    exact ⟨nameP_len h1, by simp, by simp, fun _ h => by cases h⟩
  split at h
  · simp only [Bool.and_eq_true, beq_iff_eq] at h
    obtain ⟨⟨h1, h2⟩, h3⟩ := h
    have := attrsP_each [] tk.as h1 (by simp)
    rw [h3]
    exact ⟨nameP_len h2, by simp, by simpa using this.1, this.2⟩
  · cases h
theorem prevK_app {a b : List Tk} {k : Nat} (h : k ≤ a.length) : prevK (a ++ b) k = prevK a k := by
  unfold prevK
  split
  · rfl
  · rw [List.getElem?_append_left (by omega)]
theorem opsTo_app {a b : List Tk} : ∀ k, k ≤ a.length → opsTo (a ++ b) k = opsTo a k
  | 0, _ => rfl
  | k + 1, h => by
    rw [opsTo, opsTo, opsTo_app k (by omega), prevK_app (by omega), List.getElem?_append_left (by omega)]
theorem stepT_nil (p q : Int) (tk : Tk) : stepT p [] tk = stepT q [] tk := by
  unfold stepT
  simp
theorem opsTo_join {a b : List Tk} (ha : opsTo a a.length = some []) : ∀ j, opsTo (a ++ b) (a.length + j) = opsTo b j
  | 0 => by rw [Nat.add_zero, opsTo_app _ (Nat.le_refl _), ha]; rfl
  | j + 1 => by
    rw [← Nat.add_assoc, opsTo, opsTo_join ha j, opsTo, List.getElem?_append_right (by omega), show a.length + j - a.length = j by omega]
    cases j with
    | zero =>
      show (match some ([] : List (List UInt8)), b[0]? with | some op, some tk => stepT _ op tk | _, _ => none) = (match some ([] : List (List UInt8)), b[0]? with | some op, some tk => stepT _ op tk | _, _ => none)
      cases b[0]? with
      | none => rfl
      | some tk => exact stepT_nil _ _ tk
    | succ j =>
      have e : prevK (a ++ b) (a.length + (j + 1)) = prevK b (j + 1) := by
        unfold prevK
        rw [if_neg (by omega), if_neg (by omega), List.getElem?_append_right (by omega), show a.length + (j + 1) - 1 - a.length = j + 1 - 1 by omega]
      rw [e]
theorem right_ops {l : List Tk} (h : rightL l = true) : opsTo l l.length = some [] := by
  simp [rightL] at h
  exact h.2
theorem whole_right {l : List Tk} (h : wholeL l = true) : rightL l = true ∧ 0 < l.length ∧ ∀ j, j < l.length - 1 → opsTo l (j + 1) ≠ some [] := by
  simp only [wholeL, Bool.and_eq_true, Bool.not_eq_true', decide_eq_true_eq] at h
  refine ⟨h.1.1, ?_, h.2⟩
  cases l with
  | nil => exact absurd h.1.2 (by simp)
  | cons x r => simp
theorem join_right {a b : List Tk} (ha : rightL a = true) (hb : rightL b = true) (h64 : a.length + b.length ≤ 64) : rightL (a ++ b) = true := by
  unfold rightL
  rw [List.length_append, opsTo_join (right_ops ha) b.length, right_ops hb]
  simpa using h64
theorem join_whole {a b : List Tk} (ha : wholeL a = true) (hb : wholeL b = true) : wholeL (a ++ b) = false := by
  obtain ⟨ra, la, _⟩ := whole_right ha
  obtain ⟨_, lb, _⟩ := whole_right hb
  cases h : wholeL (a ++ b) with
  | false => rfl
  | true =>
    obtain ⟨_, _, hw⟩ := whole_right h
    refine absurd ?_ (hw (a.length - 1) (by rw [List.length_append]; omega))
    rw [show a.length - 1 + 1 = a.length by omega, opsTo_app _ (Nat.le_refl _), right_ops ra]
end Go.Proofs.YtjpdadibeocpfaaDoor
