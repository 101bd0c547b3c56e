/-
  What tokens print, and what right tokens are (plain). No program but the names of the walks' words.
-/
import Derived.Test.YtfmheobofikkmaaWrWhole2
import Derived.Test.YtfmheobofikkmaaTxEsc
namespace Go.Proofs.Ytfmheobofikkmaa
set_option linter.unusedVariables false
set_option linter.unusedSimpArgs false
def atP (p : List UInt8 × List UInt8) : List UInt8 := [32] ++ p.1 ++ [61, 39] ++ escL p.2 ++ [39]
def atsL (al : Ats) : List UInt8 := al.flatMap atP
def printR : List Tk → List UInt8
  | [] => []
  | tk :: r =>
    if tk.k = 3 then escL tk.t ++ printR r
    else if tk.k = 2 then [60, 47] ++ tk.n ++ [62] ++ printR r
    else [60] ++ tk.n ++ atsL tk.as ++ (match r with
      | e :: r' => if e.k = 2 then [47] ++ [62] ++ printR r' else [62] ++ printR (e :: r')
      | [] => [62])
theorem print_end (n : List UInt8) (a : Ats) (t : List UInt8) (r : List Tk) : printR (⟨2, n, a, t⟩ :: r) = [60, 47] ++ n ++ [62] ++ printR r := by
  rw [printR.eq_def]; simp
theorem print_text (n : List UInt8) (a : Ats) (t : List UInt8) (r : List Tk) : printR (⟨3, n, a, t⟩ :: r) = escL t ++ printR r := by
  rw [printR.eq_def]; simp
theorem print_beg (n : List UInt8) (a : Ats) (t : List UInt8) (e : Tk) (r : List Tk) : printR (⟨1, n, a, t⟩ :: e :: r) = [60] ++ n ++ atsL a ++ (if e.k = 2 then [47] ++ [62] ++ printR r else [62] ++ printR (e :: r)) := by
  rw [printR.eq_def]; simp
theorem atsL_snoc (al : Ats) (j : Nat) (h : j < al.length) : atsL (al.take (j + 1)) = atsL (al.take j) ++ atP (al[j]'h) := by
  unfold atsL
  rw [List.take_succ_eq_append_getElem h, List.flatMap_append, List.flatMap_cons, List.flatMap_nil, List.append_nil]
theorem opsTo_none {l : List Tk} {m : Nat} (h : opsTo l m = none) : ∀ j, opsTo l (m + j) = none
  | 0 => h
  | j + 1 => by rw [← Nat.add_assoc, opsTo, opsTo_none h j]
theorem opsTo_some {l : List Tk} {m n : Nat} (hm : m ≤ n) (h : (opsTo l n).isSome = true) : (opsTo l m).isSome = true := by
  cases e : opsTo l m with
  | some x => rfl
  | none =>
    have := opsTo_none e (n - m)
    rw [show m + (n - m) = n by omega] at this
    rw [this] at h
    cases h
theorem right_each {l : List Tk} (h : (opsTo l l.length).isSome = true) (i : Nat) (hi : i < l.length) : rightT (l[i]'hi) = true := by
  have h1 := opsTo_some (m := i + 1) (by omega) h
  have h0 := opsTo_some (m := i) (by omega) h
  obtain ⟨op, hop⟩ := Option.isSome_iff_exists.1 h0
  rw [opsTo, hop, List.getElem?_eq_getElem hi] at h1
  simp only [stepT] at h1
  cases hr : rightT (l[i]'hi) with
  | true => rfl
  | false => rw [if_pos hr] at h1; cases h1
theorem right_kind {tk : Tk} (h : rightT tk = true) : tk.k = 1 ∨ tk.k = 2 ∨ tk.k = 3 := by
  unfold rightT at h
  split at h
  · exact .inr (.inr (by assumption))
  split at h
  · exact .inr (.inl (by assumption))
  split at h
  · exact .inl (by assumption)
  · cases h
/-- behind a beginning comes something -/
theorem right_next {l : List Tk} (h : opsTo l l.length = some []) (i : Nat) (hi : i < l.length) (hk : (l[i]'hi).k = 1) : i + 1 < l.length := by
  rcases Nat.lt_or_ge (i + 1) l.length with h' | h'
  · exact h'
  · have e : l.length = i + 1 := by omega
    rw [e, opsTo] at h
    split at h
    · rename_i op tk h0 htk
      rw [List.getElem?_eq_getElem hi] at htk
      injection htk with htk
      subst htk
      unfold stepT at h
      split at h
      · cases h
      split at h
      · injection h with h; simp at h
      split at h
      · rename_i h2; rw [hk] at h2; exact absurd h2.1 (by decide)
      split at h
      · rename_i h2; rw [hk] at h2; exact absurd h2.1 (by decide)
      · cases h
    · cases h
theorem nameP_len {n : List UInt8} (h : nameP n = true) : n.length ≤ 32 := by
  simp only [nameP, Bool.and_eq_true, decide_eq_true_eq] at h
  exact h.2
theorem fitsP_len {s : List UInt8} (h : fitsP s = true) : s.length ≤ 512 := by
  simp only [fitsP, Bool.and_eq_true, decide_eq_true_eq] at h
  exact h.1
theorem attrsP_each : ∀ (seen : List (List UInt8)) (al : Ats), attrsP seen al = true → seen.length ≤ 8 → seen.length + al.length ≤ 8 ∧ ∀ p ∈ al, p.1.length ≤ 32 ∧ p.2.length ≤ 512
  | seen, [], _, h => ⟨by simpa using h, fun _ h => by cases h⟩
  | seen, p :: r, h, h8 => by
    rw [attrsP] at h
    simp only [Bool.and_eq_true, decide_eq_true_eq] at h
    obtain ⟨⟨⟨⟨_, hn⟩, hf⟩, hl⟩, hr⟩ := h
    have ih := attrsP_each (seen ++ [p.1]) r hr (by simp; omega)
    simp only [List.length_append, List.length_cons, List.length_nil] at ih ⊢
    refine ⟨by omega, fun q hq => ?_⟩
    rcases List.mem_cons.1 hq with rfl | hq
    · exact ⟨nameP_len hn, fitsP_len hf⟩
    · exact ih.2 q hq
/-- a right token is small -/
theorem right_small {tk : Tk} (h : rightT tk = true) : tk.n.length ≤ 32 ∧ tk.t.length ≤ 512 ∧ tk.as.length ≤ 8 ∧ ∀ p ∈ tk.as, p.1.length ≤ 32 ∧ p.2.length ≤ 512 := by
  unfold rightT at h
  split at h
  · simp only [Bool.and_eq_true, beq_iff_eq, List.isEmpty_iff] at h
    obtain ⟨⟨⟨h1, h2⟩, _⟩, h4⟩ := h
    rw [h1, h2]
    exact ⟨by simp, fitsP_len h4, by simp, fun _ h => by cases h⟩
  split at h
  · simp only [Bool.and_eq_true, beq_iff_eq, List.isEmpty_iff] at h
    obtain ⟨⟨h1, h2⟩, h3⟩ := h
    rw [h2, h3]
    exact ⟨nameP_len h1, by simp, by simp, fun _ h => by cases h⟩
  split at h
  · simp only [Bool.and_eq_true, beq_iff_eq] at h
    obtain ⟨⟨h1, h2⟩, h3⟩ := h
    have := attrsP_each [] tk.as h1 (by simp)
    rw [h3]
    exact ⟨nameP_len h2, by simp, by simpa using this.1, this.2⟩
  · cases h
end Go.Proofs.Ytfmheobofikkmaa
