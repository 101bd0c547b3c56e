/-
  A text in an element, and in its attribute: what is printed of it goes byte by byte through the parser. Condition: at most 80 bytes.
-/
import Derived.Test.YtjpdadibeocpfaaDoorPrFeed
import Derived.Test.YtjpdadibeocpfaaDoorWhA
import Derived.Test.YtjpdadibeocpfaaDoorWrSa
namespace Go.Proofs.YtjpdadibeocpfaaDoor
set_option linter.unusedVariables false
set_option linter.unusedSimpArgs false
/-- where no byte falls, all go through -/
theorem feed_tr {l : List Tk} {s : List UInt8} (hno : ∀ i S out, FeedI l s i S out → ∀ hi : i < s.length, ¬ StepR S (s[i]'hi) none) : ∀ n i S out, s.length - i = n → i ≤ s.length → FeedI l s i S out → ∃ S' o2, Tr S (s.drop i) S' o2 ∧ l = out ++ o2 ∧ S'.w = [] ∧ S'.op = []
  | 0, i, S, out, hn, hi, h => by
    obtain rfl : i = s.length := by omega
    obtain ⟨h1, h2, h3⟩ := feed_end h
    rw [List.drop_length]
    exact ⟨S, [], .nil S, by rw [List.append_nil]; exact h1, h2, h3⟩
  | n + 1, i, S, out, hn, hi, h => by
    have hlt : i < s.length := by omega
    rcases feed_step h hlt with ⟨S1, tk, hR, hF⟩ | ⟨hR, -⟩
    · obtain ⟨S', o2, h1, h2, h3, h4⟩ := feed_tr hno n (i + 1) S1 (out ++ tk) (by omega) (by omega) hF
      rw [List.drop_eq_getElem_cons hlt]
      exact ⟨S', tk ++ o2, .cons hR h1, by rw [h2, List.append_assoc], h3, h4⟩
    · exact absurd hR (hno i S out h hlt)
/-- a byte falls only in a long piece -/
theorem none_long {l : List Tk} {s : List UInt8} {i : Nat} {S : Ps} {out : List Tk} (h : FeedI l s i S out) (hi : i < s.length) (hR : StepR S (s[i]'hi) none) : ∃ p : Pc, (∀ tk ∈ p.toks, tk ∈ l) ∧ 512 ≤ p.text.length ∧ (p.isTxt = false → 2048 < p.text.length) := by
  rcases h with ⟨p, r, k, pt, hd, hk, hki, hkt, hl, hok, hw, hq⟩ | ⟨h1, -⟩
  · refine ⟨p, fun tk ht => by rw [hl]; simp [ht], ?_⟩
    have hg := hok.good
    cases hT : p.isTxt with
    | true =>
      cases p with
      | beg n al => cases hT
      | emp n al => cases hT
      | fin n => cases hT
      | txt t =>
        simp only [Pc.text] at hw ⊢
        refine ⟨?_, fun h => by cases h⟩
        generalize s[i]'hi = c at hR
        cases hR with
        | txtL _ h1 h2 h3 h4 => have := congrArg List.length hw; rw [List.length_take] at this; omega
        | tagL _ b h1 h2 h3 => have := congrArg List.length hw; rw [List.length_take] at this; omega
    | false =>
      have hlt := hkt hT
      have hwl : S.w.length = k := by rw [hw, List.length_take]; omega
      obtain ⟨e1, -⟩ := tag_head hg hT
      generalize s[i]'hi = c at hR
      cases hR with
      | txtL _ h1 h2 h3 h4 =>
        exfalso
        refine h3 ?_
        rw [hw]
        obtain ⟨k', rfl⟩ : ∃ k', k = k' + 1 := ⟨k - 1, by omega⟩
        cases hp : p.text with
        | nil => rw [hp] at e1; cases e1
        | cons x r =>
          rw [hp] at e1
          simp at e1
          simp [e1]
      | tagL _ b h1 h2 h3 => exact ⟨by omega, fun _ => by omega⟩
  · omega
def tcL (s : List UInt8) : List Tk := elemL [97] [([98], s)] [⟨3, [], [], s⟩]
theorem tc_eq (s : List UInt8) : tcL s = [⟨1, [97], [([98], s)], []⟩, ⟨3, [], [], s⟩, ⟨2, [97], [], []⟩] := rfl
theorem tc_whole (s : List UInt8) (h : rightL (tcL s) = true) : wholeL (tcL s) = true := by
  have hr := h
  unfold rightL at h
  simp only [Bool.and_eq_true, decide_eq_true_eq, beq_iff_eq] at h
  have h3 := h.2
  unfold wholeL
  rw [hr]
  simp only [Bool.true_and, Bool.and_eq_true, decide_eq_true_eq]
  refine ⟨rfl, fun j hj e => ?_⟩
  have hj2 : j < 2 := hj
  have e1 : opsTo (tcL s) 1 = some [[97]] ∨ opsTo (tcL s) 1 = none := by
    have : opsTo (tcL s) 1 = stepT 0 [] ⟨1, [97], [([98], s)], []⟩ := rfl
    rw [this]
    unfold stepT
    split
    · exact .inr rfl
    · exact .inl rfl
  have e2 : opsTo (tcL s) 2 = opsTo (tcL s) 1 ∨ opsTo (tcL s) 2 = none := by
    rcases e1 with h1 | h1
    · have : opsTo (tcL s) 2 = stepT 1 [[97]] ⟨3, [], [], s⟩ := by
        show (match opsTo (tcL s) 1, (tcL s)[1]? with | some op, some tk => stepT (prevK (tcL s) 1) op tk | _, _ => none) = _
        rw [h1]; rfl
      rw [this, h1]
      unfold stepT
      split
      · exact .inr rfl
      · exact .inl rfl
    · refine .inr ?_
      show (match opsTo (tcL s) 1, (tcL s)[1]? with | some op, some tk => stepT (prevK (tcL s) 1) op tk | _, _ => none) = _
      rw [h1]
  obtain rfl | rfl : j = 0 ∨ j = 1 := by omega
  · rcases e1 with h1 | h1 <;> rw [h1] at e <;> cases e
  · rcases e2 with h2 | h2
    · rw [h2] at e
      rcases e1 with h1 | h1 <;> rw [h1] at e <;> cases e
    · rw [h2] at e; cases e
theorem tc_short (s : List UInt8) (hs : s.length ≤ 80) (p : Pc) (h : ∀ tk ∈ p.toks, tk ∈ tcL s) : p.text.length < 512 ∨ (p.isTxt = false ∧ p.text.length ≤ 2048) := by
  have he := escL_len s
  rw [tc_eq] at h
  cases p with
  | txt t =>
    have := h ⟨3, [], [], t⟩ (by simp [Pc.toks])
    simp at this
    subst this
    exact .inl (by simp only [Pc.text]; omega)
  | beg n al =>
    have := h ⟨1, n, al, []⟩ (by simp [Pc.toks])
    simp at this
    obtain ⟨rfl, rfl⟩ := this
    exact .inr ⟨rfl, by simp [Pc.text, atsL, atP]; omega⟩
  | emp n al =>
    have := h ⟨1, n, al, []⟩ (by simp [Pc.toks])
    simp at this
    obtain ⟨rfl, rfl⟩ := this
    exact .inr ⟨rfl, by simp [Pc.text, atsL, atP]; omega⟩
  | fin n =>
    have := h ⟨2, n, [], []⟩ (by simp [Pc.toks])
    simp at this
    subst this
    exact .inr ⟨rfl, by simp [Pc.text]⟩
/-- what is printed goes through -/
theorem tc_tr (s : List UInt8) (hs : s.length ≤ 80) (h : rightL (tcL s) = true) : ∃ S', Tr ⟨[], 0, [], false⟩ (printR (tcL s)) S' (tcL s) ∧ S'.op = [] := by
  obtain ⟨S', o2, h1, h2, -, h4⟩ := feed_tr (l := tcL s) (s := printR (tcL s)) (fun i S out hF hi hR => by
    obtain ⟨p, q1, q2, q3⟩ := none_long hF hi hR
    rcases tc_short s hs p q1 with h | ⟨h, h'⟩
    · omega
    · have := q3 h; omega) _ 0 _ [] rfl (Nat.zero_le _) (feed_start (tc_whole s h))
  rw [List.drop_zero] at h1
  rw [List.nil_append] at h2
  rw [← h2] at h1
  exact ⟨S', h1, h4⟩
theorem tc_len (s : List UInt8) (hs : s.length ≤ 80) : (printR (tcL s)).length ≤ 3000 := by
  have he := escL_len s
  have : printR (tcL s) = [60] ++ [97] ++ atsL [([98], s)] ++ ([62] ++ (escL s ++ ([60, 47] ++ [97] ++ [62] ++ printR []))) := by
    rw [tc_eq, print_beg, if_neg (show ¬ ((3 : Int) = 2) by decide), print_text, print_end]
  rw [this]
  simp [atsL, atP, printR]
  omega
theorem sameL_refl : ∀ l : List Tk, sameL l l = true
  | [] => rfl
  | x :: r => by simp [sameL, sameL_refl r, Tk.same]
end Go.Proofs.YtjpdadibeocpfaaDoor
