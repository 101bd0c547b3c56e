/-
  What a parser has at each byte of a text of whole tokens, and that each byte takes it on. No program, no condition.
-/
import Derived.Test.YtjpdadibeocpfaaDoorPbC
namespace Go.Proofs.YtjpdadibeocpfaaDoor
set_option linter.unusedVariables false
set_option linter.unusedSimpArgs false
/-- what waits, the open quote, the open names, whether an element was open -/
structure Ps where
  w : List UInt8
  q : UInt8
  op : List (List UInt8)
  rt : Bool
/-- what a tag does to what is open -/
def TagR (op : List (List UInt8)) (rt : Bool) (op' : List (List UInt8)) (rt' : Bool) : Pc → Prop
  | .txt _ => False
  | .beg n _ => op.length < 8 ∧ (op ≠ [] ∨ rt = false) ∧ op' = op ++ [n] ∧ rt' = true
  | .emp _ _ => op.length < 8 ∧ (op ≠ [] ∨ rt = false) ∧ op' = op ∧ rt' = true
  | .fin n => op = op' ++ [n] ∧ op'.length < 8 ∧ rt' = rt
inductive StepR (S : Ps) : UInt8 → Option (Ps × List Tk) → Prop
  | txt (c : UInt8) : S.q = 0 → c ≠ 60 → S.w.head? ≠ some 60 → S.w.length + 1 ≤ 512 → StepR S c (some (⟨S.w ++ [c], S.q, S.op, S.rt⟩, []))
  | txtL (c : UInt8) : S.q = 0 → c ≠ 60 → S.w.head? ≠ some 60 → 512 < S.w.length + 1 → StepR S c none
  | opn : S.w = [] → S.q = 0 → StepR S 60 (some (⟨[60], S.q, S.op, S.rt⟩, []))
  | aft (t : List UInt8) : S.w = escL t → t ≠ [] → fitsP t = true → S.q = 0 → S.op ≠ [] → StepR S 60 (some (⟨[60], S.q, S.op, S.rt⟩, [⟨3, [], [], t⟩]))
  | tag (c : UInt8) (b : List UInt8) : S.w = 60 :: b → c ≠ 62 → c ≠ 60 → (S.q = 0 ∨ S.q = 39) → S.w.length + 1 ≤ 2048 → StepR S c (some (⟨S.w ++ [c], qStep S.q c, S.op, S.rt⟩, []))
  | tagL (c : UInt8) (b : List UInt8) : S.w = 60 :: b → c ≠ 60 → 2048 < S.w.length + 1 → StepR S c none
  | fin (p : Pc) (op' : List (List UInt8)) (rt' : Bool) : p.isTxt = false → S.w = p.body → p.good → S.q = 0 → TagR S.op S.rt op' rt' p → S.w.length + 1 ≤ 2048 → StepR S 62 (some (⟨[], 0, op', rt'⟩, p.toks))
def FeedI (l : List Tk) (s : List UInt8) (i : Nat) (S : Ps) (out : List Tk) : Prop :=
  (∃ p r k pt, s.drop i = p.text.drop k ++ r.flatMap Pc.text ∧ k ≤ p.text.length ∧ k ≤ i ∧ (p.isTxt = false → k < p.text.length) ∧ l = out ++ p.toks ++ r.flatMap Pc.toks ∧ PcOk S.op pt S.rt (p :: r) ∧ S.w = p.text.take k ∧ S.q = (if p.isTxt then 0 else qSt S.w 0)) ∨
    (i = s.length ∧ l = out ∧ S.w = [] ∧ S.q = 0 ∧ S.op = [])
theorem escL_ne {t : List UInt8} (h : t ≠ []) : escL t ≠ [] := by
  cases t with
  | nil => exact absurd rfl h
  | cons c t =>
    unfold escL
    rw [List.flatMap_cons]
    have : esc1 c ≠ [] := by
      unfold esc1
      repeat (split; · simp)
      simp
    simp [this]
/-- the quotes in a tag are single ones -/
theorem qSt_two : ∀ (l : List UInt8) (q : UInt8), (∀ b ∈ l, b ≠ 34) → (q = 0 ∨ q = 39) → (qSt l q = 0 ∨ qSt l q = 39)
  | [], q, _, h => h
  | c :: l, q, h, hq => by
    refine qSt_two l (qStep q c) (fun b hb => h b (by simp [hb])) ?_
    have h1 := h c (by simp)
    unfold qStep
    rcases hq with rfl | rfl
    · by_cases hc : c = 39
      · subst hc; exact .inr (by decide)
      · simp [h1, hc]
    · by_cases hc : c = 39
      · subst hc; exact .inl (by decide)
      · simp [hc]
theorem atsL_34 : ∀ {al : Ats}, (∀ p ∈ al, nameP p.1 = true ∧ fitsP p.2 = true) → ∀ b ∈ atsL al, b ≠ 34
  | [], _, b, hb => by cases hb
  | p :: r, h, b, hb => by
    have e : atsL (p :: r) = atP p ++ atsL r := by unfold atsL; rw [List.flatMap_cons]
    rw [e] at hb
    rcases List.mem_append.1 hb with hb | hb
    · simp only [atP, List.mem_append, List.mem_cons, List.not_mem_nil, or_false] at hb
      rcases hb with (((rfl | hb) | rfl | rfl) | hb) | rfl
      · decide
      · exact (nameC_ne (name_all (h p (by simp)).1 b hb)).2.2.2.1
      · decide
      · decide
      · exact (escL_no p.2 b hb).2.2.2
      · decide
    · exact atsL_34 (fun q hq => h q (by simp [hq])) b hb
theorem body_34 {p : Pc} (h : p.good) (ht : p.isTxt = false) : ∀ b ∈ p.body, b ≠ 34 := by
  have nm : ∀ {n : List UInt8}, nameP n = true → ∀ b ∈ n, b ≠ 34 := fun h b hb => (nameC_ne (name_all h b hb)).2.2.2.1
  intro b hb
  cases p with
  | txt t => cases ht
  | beg n al =>
    simp only [Pc.body, List.mem_append, List.mem_cons, List.not_mem_nil, or_false] at hb
    rcases hb with (rfl | hb) | hb
    · decide
    · exact nm h.1 b hb
    · exact atsL_34 (attrs_each [] al h.2) b hb
  | emp n al =>
    simp only [Pc.body, List.mem_append, List.mem_cons, List.not_mem_nil, or_false] at hb
    rcases hb with ((rfl | hb) | hb) | rfl
    · decide
    · exact nm h.1 b hb
    · exact atsL_34 (attrs_each [] al h.2) b hb
    · decide
  | fin n =>
    simp only [Pc.body, List.mem_append, List.mem_cons, List.not_mem_nil, or_false] at hb
    rcases hb with (rfl | rfl) | hb
    · decide
    · decide
    · exact nm h b hb
theorem tag_head {p : Pc} (h : p.good) (ht : p.isTxt = false) : p.text.take 1 = [60] ∧ 1 < p.text.length := by
  obtain ⟨⟨b, e, hb, -⟩, -, -⟩ := body_facts h ht
  rw [p.text_body ht, e]
  exact ⟨rfl, by cases b with | nil => exact absurd rfl hb | cons x b => simp⟩
theorem drop_head {s : List UInt8} {i : Nat} (hi : i < s.length) {c : UInt8} {r : List UInt8} (h : s.drop i = c :: r) : s[i]'hi = c ∧ s.drop (i + 1) = r := by
  rw [List.drop_eq_getElem_cons hi] at h
  injection h with h1 h2
  exact ⟨h1, h2⟩
theorem tag_next {op : List (List UInt8)} {pt rt : Bool} {p : Pc} {r : List Pc} (h : PcOk op pt rt (p :: r)) (ht : p.isTxt = false) : ∃ op' rt', TagR op rt op' rt' p ∧ PcOk op' false rt' r := by
  cases p with
  | txt t => cases ht
  | beg n al => exact ⟨_, _, ⟨h.2.2.1, h.2.2.2.1, rfl, rfl⟩, h.2.2.2.2⟩
  | emp n al => exact ⟨_, _, ⟨h.2.2.1, h.2.2.2.1, rfl, rfl⟩, h.2.2.2.2⟩
  | fin n =>
    obtain ⟨_, op', h1, h2, h3⟩ := h
    exact ⟨op', rt, ⟨h1, h2, rfl⟩, h3⟩
theorem feed_step {l : List Tk} {s : List UInt8} {i : Nat} {S : Ps} {out : List Tk} (h : FeedI l s i S out) (hi : i < s.length) :
    (∃ S' tk, StepR S (s[i]'hi) (some (S', tk)) ∧ FeedI l s (i + 1) S' (out ++ tk)) ∨ (StepR S (s[i]'hi) none ∧ 512 < s.length) := by
  rcases h with ⟨p, r, k, pt, hd, hk, hki, hkt, hl, hok, hw, hq⟩ | ⟨h1, -⟩
  · have hg := hok.good
    cases hT : p.isTxt with
    | true =>
      rw [hT, if_pos rfl] at hq
      cases p with
      | beg n al => cases hT
      | emp n al => cases hT
      | fin n => cases hT
      | txt t =>
        simp only [Pc.text] at hd hk hw
        rcases Nat.lt_or_ge k (escL t).length with hlt | hge
        · rw [List.drop_eq_getElem_cons hlt, List.cons_append] at hd
          obtain ⟨hc, hd'⟩ := drop_head hi hd
          rw [hc]
          have hb := escL_no t _ (List.getElem_mem hlt)
          have hhd : S.w.head? ≠ some 60 := by
            rw [hw]
            intro e
            have : (60 : UInt8) ∈ escL t := List.mem_of_mem_take (List.mem_of_mem_head? (by rw [e]; rfl) : (60 : UInt8) ∈ (escL t).take k)
            exact (escL_no t 60 this).1 rfl
          by_cases h512 : S.w.length + 1 ≤ 512
          · refine .inl ⟨_, _, .txt _ hq hb.1 hhd h512, .inl ⟨.txt t, r, k + 1, pt, hd', hlt, by omega, fun e => (by cases e), by simpa using hl, hok, ?_, hq⟩⟩
            show S.w ++ [_] = (escL t).take (k + 1)
            rw [hw, List.take_succ_eq_append_getElem hlt]
          · refine .inr ⟨.txtL _ hq hb.1 hhd (by omega), ?_⟩
            have : S.w.length ≤ k := by rw [hw, List.length_take]; omega
            omega
        · rw [List.drop_of_length_le hge, List.nil_append] at hd
          have hw' : S.w = escL t := by rw [hw, List.take_of_length_le hge]
          cases r with
          | nil =>
            have := congrArg List.length hd
            simp at this; omega
          | cons p' r' =>
            have hok' := hok.2.2.2.2.2
            have hT' : p'.isTxt = false := by
              cases p' with
              | txt t' => exact absurd hok'.2.1 (by decide)
              | _ => rfl
            obtain ⟨e1, e2⟩ := tag_head hok'.good hT'
            have e3 : p'.text = 60 :: p'.text.drop 1 := by
              have := List.take_append_drop 1 p'.text
              rw [e1] at this; exact this.symm
            rw [List.flatMap_cons, e3, List.cons_append] at hd
            obtain ⟨hc, hd'⟩ := drop_head hi hd
            rw [hc]
            refine .inl ⟨_, _, .aft t hw' hok.2.2.1 hok.2.2.2.1 hq hok.1, .inl ⟨p', r', 1, true, hd', by omega, by omega, fun _ => e2, ?_, hok', e1.symm, ?_⟩⟩
            · rw [hl, List.flatMap_cons]; simp [Pc.toks]
            · show S.q = _
              rw [hT', hq, if_neg (by decide)]
              show (0 : UInt8) = qSt [60] 0
              decide
    | false =>
      rw [hT, if_neg (by decide)] at hq
      have hlt := hkt hT
      obtain ⟨⟨b, hbe, hbn, hb⟩, hqb, -⟩ := body_facts hg hT
      obtain ⟨e1, e2⟩ := tag_head hg hT
      have htb := p.text_body hT
      have hblen : p.body.length = b.length + 1 := by rw [hbe]; rfl
      have htl : p.text.length = b.length + 2 := by rw [htb, List.length_append, hblen]; rfl
      rcases Nat.eq_zero_or_pos k with rfl | hk0
      · have e3 : p.text = 60 :: p.text.drop 1 := by
          have := List.take_append_drop 1 p.text
          rw [e1] at this; exact this.symm
        rw [List.drop_zero, e3, List.cons_append] at hd
        obtain ⟨hc, hd'⟩ := drop_head hi hd
        rw [hc]
        rw [List.take_zero] at hw
        rw [hw] at hq
        refine .inl ⟨_, _, .opn hw hq, .inl ⟨p, r, 1, pt, hd', by omega, by omega, fun _ => e2, by simpa using hl, hok, e1.symm, ?_⟩⟩
        show S.q = _
        rw [hT, if_neg (by decide), hq]
        show qSt [] 0 = qSt [60] 0
        decide
      · have hwl : S.w.length = k := by rw [hw, List.length_take]; omega
        have hw60 : ∃ x, S.w = 60 :: x := by
          rw [hw, htb, hbe]
          obtain ⟨k', rfl⟩ : ∃ k', k = k' + 1 := ⟨k - 1, by omega⟩
          exact ⟨_, rfl⟩
        obtain ⟨x, hx⟩ := hw60
        rw [List.drop_eq_getElem_cons hlt, List.cons_append] at hd
        obtain ⟨hc, hd'⟩ := drop_head hi hd
        rw [hc]
        rcases Nat.lt_or_ge k p.body.length with hkb | hkb
        · have ec : p.text[k]'hlt = p.body[k]'hkb := by
            simp only [htb]; rw [List.getElem_append_left hkb]
          have hcb : p.body[k]'hkb ≠ 62 ∧ p.body[k]'hkb ≠ 60 := by
            have : p.body[k]'hkb = b[k - 1]'(by omega) := by
              obtain ⟨k', rfl⟩ : ∃ k', k = k' + 1 := ⟨k - 1, by omega⟩
              simp only [hbe]; rfl
            rw [this]; exact hb _ (List.getElem_mem _)
          have hwb : S.w = p.body.take k := by rw [hw, htb, List.take_append_of_le_length (by omega)]
          have hq2 : S.q = 0 ∨ S.q = 39 := by
            rw [hq, hwb]
            exact qSt_two _ 0 (fun y hy => body_34 hg hT y (List.mem_of_mem_take hy)) (.inl rfl)
          rw [ec]
          by_cases h2048 : S.w.length + 1 ≤ 2048
          · refine .inl ⟨_, _, .tag _ x hx hcb.1 hcb.2 hq2 h2048, .inl ⟨p, r, k + 1, pt, hd', by omega, by omega, fun _ => by omega, by simpa using hl, hok, ?_, ?_⟩⟩
            · show S.w ++ [_] = p.text.take (k + 1)
              rw [hw, List.take_succ_eq_append_getElem hlt, ec]
            · show qStep S.q _ = if p.isTxt then 0 else qSt (S.w ++ [_]) 0
              rw [hT, if_neg (by decide), qSt_app, ← hq]; rfl
          · exact .inr ⟨.tagL _ x hx hcb.2 (by omega), by omega⟩
        · have hke : k = p.body.length := by omega
          have ec : p.text[k]'hlt = 62 := by
            simp only [htb]; rw [List.getElem_append_right (by omega)]; simp [hke]
          have hwb : S.w = p.body := by rw [hw, htb, List.take_append_of_le_length (by omega), hke, List.take_length]
          have hq0 : S.q = 0 := by rw [hq, hwb, hqb]
          rw [ec]
          by_cases h2048 : S.w.length + 1 ≤ 2048
          · obtain ⟨op', rt', hR, hok'⟩ := tag_next hok hT
            refine .inl ⟨_, _, .fin p op' rt' hT hwb hg hq0 hR h2048, ?_⟩
            have hz : p.text.drop (k + 1) = [] := List.drop_of_length_le (by omega)
            rw [hz, List.nil_append] at hd'
            cases r with
            | nil =>
              refine .inr ⟨?_, by simpa using hl, rfl, rfl, hok'⟩
              have := congrArg List.length hd'
              simp at this; omega
            | cons p' r' =>
              refine .inl ⟨p', r', 0, false, by rw [hd', List.flatMap_cons]; rfl, by omega, by omega, fun hT' => ?_, ?_, hok', rfl, ?_⟩
              · have := (tag_head hok'.good hT').2; omega
              · rw [hl, List.flatMap_cons]; simp
              · show (0 : UInt8) = if p'.isTxt then 0 else qSt [] 0
                cases p'.isTxt <;> rfl
          · exact .inr ⟨.tagL _ x hx (by decide) (by omega), by omega⟩
  · omega
theorem feed_start {l : List Tk} (h : wholeL l = true) : FeedI l (printR l) 0 ⟨[], 0, [], false⟩ [] := by
  obtain ⟨h1, h2, h3⟩ := whole_pieces h
  cases hp : piecesOf l with
  | nil => 
    rw [hp] at h2
    have := (whole_right h).2.1
    rw [h2] at this
    exact absurd this (by decide)
  | cons p r =>
    rw [hp] at h1 h2 h3
    refine .inl ⟨p, r, 0, false, by rw [h3, List.flatMap_cons]; rfl, by omega, by omega, fun hT => ?_, by rw [List.flatMap_cons] at h2; simpa using h2, h1, rfl, ?_⟩
    · have := (tag_head h1.good hT).2; omega
    · cases p.isTxt <;> rfl
theorem feed_end {l : List Tk} {s : List UInt8} {S : Ps} {out : List Tk} (h : FeedI l s s.length S out) : l = out ∧ S.w = [] ∧ S.op = [] := by
  rcases h with ⟨p, r, k, pt, hd, hk, hki, hkt, hl, hok, hw, hq⟩ | ⟨-, h1, h2, -, h3⟩
  · exfalso
    rw [List.drop_length] at hd
    obtain ⟨e1, e2⟩ := List.append_eq_nil_iff.1 hd.symm
    have hkl : p.text.length ≤ k := by simpa using e1
    cases hT : p.isTxt with
    | false => have := hkt hT; omega
    | true =>
      cases p with
      | txt t =>
        cases r with
        | nil => exact hok.1 hok.2.2.2.2.2
        | cons p' r' =>
          have hok' := hok.2.2.2.2.2
          have hT' : p'.isTxt = false := by
            cases p' with
            | txt t' => exact absurd hok'.2.1 (by decide)
            | _ => rfl
          have h1 := (tag_head hok'.good hT').2
          rw [List.flatMap_cons] at e2
          rw [(List.append_eq_nil_iff.1 e2).1] at h1
          exact absurd h1 (by decide)
      | _ => cases hT
  · exact ⟨h1, h2, h3⟩
end Go.Proofs.YtjpdadibeocpfaaDoor
