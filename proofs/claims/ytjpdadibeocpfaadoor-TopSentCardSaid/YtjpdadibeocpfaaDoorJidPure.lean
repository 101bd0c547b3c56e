/-
  Addresses as lists of bytes: what is a part, an address's text, what a text says. Plain lists, no program. No condition.
-/
import Derived.Lib.IndexLaws
namespace Go.Proofs.YtjpdadibeocpfaaDoor
set_option linter.unusedVariables false
set_option linter.unusedSimpArgs false
/-- may a byte be in a part -/
def letterN (n : Nat) : Bool := decide ((97 ≤ n ∧ n ≤ 122) ∨ (65 ≤ n ∧ n ≤ 90) ∨ (48 ≤ n ∧ n ≤ 57) ∨ n = 45 ∨ n = 95 ∨ n = 46)
def lettersL (l : List UInt8) : Bool := l.all fun c => letterN c.toNat
def part0 (s : List UInt8) : Bool := !s.isEmpty && lettersL s
def partP (s : List UInt8) : Bool := part0 s && decide (s.length ≤ 64)
def joinL (l d r : List UInt8) : List UInt8 := (if l.isEmpty then d else l ++ 64 :: d) ++ (if r.isEmpty then [] else 47 :: r)
def rightJ (l d r : List UInt8) : Bool := partP d && (l.isEmpty || partP l) && (r.isEmpty || partP r) && decide ((joinL l d r).length ≤ 64)

theorem letters_snoc (s : List UInt8) (k : Nat) (hk : k < s.length) (h : lettersL (s.take k) = true) (hc : letterN s[k].toNat = true) : lettersL (s.take (k + 1)) = true := by
  unfold lettersL at *
  rw [List.take_succ_eq_append_getElem hk, List.all_append, h]
  simpa using hc
theorem letters_not (s : List UInt8) (k : Nat) (hk : k < s.length) (hc : letterN s[k].toNat = false) : lettersL s = false := by
  unfold lettersL
  rw [List.all_eq_false]
  exact ⟨s[k], by simp, by simpa using hc⟩
theorem letters_all (s : List UInt8) (k : Nat) (hk : ¬ k < s.length) (h : lettersL (s.take k) = true) : lettersL s = true := by
  rwa [List.take_of_length_le (by omega)] at h
theorem part0_no {s : List UInt8} (h : lettersL s = false) : false = part0 s := by simp [part0, h]
theorem part0_yes {s : List UInt8} (h : lettersL s = true) : (!s.isEmpty) = part0 s := by simp [part0, h]
theorem partP_no {s : List UInt8} (h : lettersL s = false) : false = partP s := by simp [partP, part0, h]
theorem partP_yes {s : List UInt8} (h : lettersL s = true) : (!s.isEmpty && decide (s.length ≤ 64)) = partP s := by simp [partP, part0, h]

/-- cut at the first of a byte -/
def cutB (c : UInt8) : List UInt8 → List UInt8 × List UInt8 × Bool
  | [] => ([], [], false)
  | b :: l => if b == c then ([], l, true) else (b :: (cutB c l).1, (cutB c l).2.1, (cutB c l).2.2)
theorem cutB_none {c : UInt8} : ∀ {l : List UInt8}, Lib.indexByte l c < 0 → cutB c l = (l, [], false)
  | [], _ => rfl
  | b :: l, h => by
    unfold Lib.indexByte at h
    unfold cutB
    split at h
    · omega
    · rename_i hb
      have : Lib.indexByte l c < 0 := by
        split at h
        · rename_i e; have e := eq_of_beq e; omega
        · have := Lib.indexByte_ge l c; omega
      rw [if_neg (by simpa using hb), cutB_none this]
theorem cutB_some {c : UInt8} : ∀ {l : List UInt8}, 0 ≤ Lib.indexByte l c → (Lib.indexByte l c).toNat < l.length ∧ cutB c l = (l.take (Lib.indexByte l c).toNat, l.drop ((Lib.indexByte l c).toNat + 1), true)
  | [], h => by simp [Lib.indexByte] at h
  | b :: l, h => by
    by_cases hb : (b == c) = true
    · have e : Lib.indexByte (b :: l) c = 0 := by simp [Lib.indexByte, hb]
      rw [e]
      simp [cutB, hb]
    · by_cases hm : (Lib.indexByte l c == -1) = true
      · exfalso
        have e : Lib.indexByte (b :: l) c = -1 := by simp only [Lib.indexByte, hb, hm, if_true, Bool.false_eq_true, if_false]
        omega
      · have e : Lib.indexByte (b :: l) c = Lib.indexByte l c + 1 := by simp only [Lib.indexByte, hb, hm, Bool.false_eq_true, if_false]
        have h1 := Lib.indexByte_ge l c
        have h2 : Lib.indexByte l c ≠ -1 := by simpa using hm
        obtain ⟨i1, i2⟩ := cutB_some (c := c) (l := l) (by omega)
        have e2 : (Lib.indexByte l c + 1).toNat = (Lib.indexByte l c).toNat + 1 := by omega
        rw [e, e2]
        refine ⟨by simpa using i1, ?_⟩
        rw [cutB, if_neg hb, i2]
        simp
/-- none of a byte ahead of a place -/
def noB (c : UInt8) (s : List UInt8) (k : Nat) : Prop := ∀ x ∈ s.take k, (x == c) = false
theorem noB_zero (c : UInt8) (s : List UInt8) : noB c s 0 := by intro x hx; simp at hx
theorem noB_succ {c : UInt8} {s : List UInt8} {k : Nat} (h : noB c s k) (hk : k < s.length) (hc : s[k] ≠ c) : noB c s (k + 1) := by
  intro x hx
  rw [List.take_succ_eq_append_getElem hk, List.mem_append, List.mem_singleton] at hx
  rcases hx with hx | rfl
  · exact h x hx
  · simpa using hc
theorem cutB_at {c : UInt8} : ∀ {s : List UInt8} {k : Nat}, noB c s k → (hk : k < s.length) → s[k] = c → cutB c s = (s.take k, s.drop (k + 1), true)
  | [], k, _, hk, _ => by simp at hk
  | b :: l, 0, _, hk, hc => by simp at hc; subst hc; simp [cutB]
  | b :: l, k + 1, h, hk, hc => by
    have hb := h b (by simp)
    rw [cutB, if_neg (by rw [hb]; decide), cutB_at (s := l) (k := k) (fun x hx => h x (by simp [hx])) (by simpa using hk) (by simpa using hc)]
    simp
theorem cutB_end {c : UInt8} : ∀ {s : List UInt8}, noB c s s.length → cutB c s = (s, [], false)
  | [], _ => rfl
  | b :: l, h => by
    have hb := h b (by simp)
    rw [cutB, if_neg (by rw [hb]; decide), cutB_end (s := l) (fun x hx => h x (by simp at hx; simp [hx]))]
/-- a cut puts its text together -/
theorem cutB_join (c : UInt8) : ∀ l : List UInt8, l = (cutB c l).1 ++ (if (cutB c l).2.2 then c :: (cutB c l).2.1 else [])
  | [] => rfl
  | b :: l => by
    unfold cutB
    by_cases hb : (b == c) = true
    · rw [if_pos hb]; simp only [List.nil_append, if_true]; rw [eq_of_beq hb]
    · rw [if_neg hb]; simp only [List.cons_append]; rw [← cutB_join c l]
theorem cutB_rest (c : UInt8) : ∀ l : List UInt8, (cutB c l).2.2 = false → (cutB c l).2.1 = []
  | [], _ => rfl
  | b :: l, h => by
    unfold cutB at h ⊢
    by_cases hb : (b == c) = true
    · rw [if_pos hb] at h; simp at h
    · rw [if_neg hb] at h ⊢; exact cutB_rest c l h
theorem cutB_app {c : UInt8} : ∀ {a : List UInt8} (b : List UInt8), (∀ x ∈ a, (x == c) = false) → cutB c (a ++ c :: b) = (a, b, true)
  | [], b, _ => by simp [cutB]
  | x :: a, b, h => by
    rw [List.cons_append, cutB, if_neg (by rw [h x (by simp)]; decide), cutB_app b (fun y hy => h y (by simp [hy]))]
theorem cutB_no {c : UInt8} : ∀ {a : List UInt8}, (∀ x ∈ a, (x == c) = false) → cutB c a = (a, [], false)
  | [], _ => rfl
  | x :: a, h => by
    rw [cutB, if_neg (by rw [h x (by simp)]; decide), cutB_no (fun y hy => h y (by simp [hy]))]
theorem cutB_front {c : UInt8} : ∀ (l : List UInt8), ∀ x ∈ (cutB c l).1, (x == c) = false
  | [], x, h => by simp [cutB] at h
  | b :: l, x, h => by
    unfold cutB at h
    by_cases hb : (b == c) = true
    · rw [if_pos hb] at h; simp at h
    · rw [if_neg hb] at h
      simp only [List.mem_cons] at h
      rcases h with rfl | h
      · simpa using hb
      · exact cutB_front l x h

/-- what an address's text says -/
def parseL (s : List UInt8) : Option (List UInt8 × List UInt8 × List UInt8) :=
  let f := cutB 47 s
  let g := cutB 64 f.1
  if f.2.2 && !partP f.2.1 then none
  else if g.2.2 && !partP g.1 then none
  else
    let l := if g.2.2 then g.1 else []
    let d := if g.2.2 then g.2.1 else f.1
    if rightJ l d f.2.1 then some (l, d, f.2.1) else none

theorem letters_ne {l : List UInt8} (h : lettersL l = true) {c : UInt8} (hc : letterN c.toNat = false) : ∀ x ∈ l, (x == c) = false := by
  intro x hx
  unfold lettersL at h
  rw [List.all_eq_true] at h
  have := h x hx
  rw [beq_eq_false_iff_ne]
  rintro rfl
  rw [hc] at this
  cases this
theorem partP_letters {l : List UInt8} (h : partP l = true) : lettersL l = true ∧ l ≠ [] ∧ l.length ≤ 64 := by
  simp [partP, part0] at h
  exact ⟨h.1.2, by simpa using h.1.1, h.2⟩
theorem rightJ_parts {l d r : List UInt8} (h : rightJ l d r = true) : lettersL d = true ∧ d ≠ [] ∧ lettersL l = true ∧ lettersL r = true ∧ (joinL l d r).length ≤ 64 ∧ l.length ≤ 64 ∧ d.length ≤ 64 ∧ r.length ≤ 64 := by
  simp only [rightJ, Bool.and_eq_true, Bool.or_eq_true, decide_eq_true_eq] at h
  obtain ⟨⟨⟨h1, h2⟩, h3⟩, h4⟩ := h
  have k1 := partP_letters h1
  refine ⟨k1.1, k1.2.1, ?_, ?_, h4, ?_, k1.2.2, ?_⟩
  · rcases h2 with h2 | h2
    · simp at h2; subst h2; rfl
    · exact (partP_letters h2).1
  · rcases h3 with h3 | h3
    · simp at h3; subst h3; rfl
    · exact (partP_letters h3).1
  · rcases h2 with h2 | h2
    · simp at h2; subst h2; simp
    · exact (partP_letters h2).2.2
  · rcases h3 with h3 | h3
    · simp at h3; subst h3; simp
    · exact (partP_letters h3).2.2
/-- PARSE OF PRINT -/
theorem parse_join {l d r : List UInt8} (h : rightJ l d r = true) : parseL (joinL l d r) = some (l, d, r) := by
  obtain ⟨hd, hd0, hl, hr, -, -, -, -⟩ := rightJ_parts h
  have hR := h
  simp only [rightJ, Bool.and_eq_true, Bool.or_eq_true, decide_eq_true_eq] at h
  obtain ⟨⟨⟨h1, h2⟩, h3⟩, h4⟩ := h
  have n47 : letterN (47 : UInt8).toNat = false := by decide
  have n64 : letterN (64 : UInt8).toNat = false := by decide
  have ef : cutB 47 (joinL l d r) = ((if l.isEmpty then d else l ++ 64 :: d), r, !r.isEmpty) := by
    unfold joinL
    have hx : ∀ x ∈ (if l.isEmpty then d else l ++ 64 :: d), (x == (47 : UInt8)) = false := by
      split
      · exact letters_ne hd n47
      · intro x hx
        simp only [List.mem_append, List.mem_cons] at hx
        rcases hx with hx | rfl | hx
        · exact letters_ne hl n47 x hx
        · decide
        · exact letters_ne hd n47 x hx
    cases r with
    | nil => simpa using cutB_no hx
    | cons a r => simpa using cutB_app (a :: r) hx
  have eg : cutB 64 (if l.isEmpty then d else l ++ 64 :: d) = (if l.isEmpty then (d, [], false) else (l, d, true)) := by
    cases l with
    | nil => simpa using cutB_no (letters_ne hd n64)
    | cons a l => simpa using cutB_app d (letters_ne hl n64)
  unfold parseL
  simp only [ef, eg]
  cases l with
  | nil =>
    cases r with
    | nil => simp [hR]
    | cons a r => simp at h3; simp [h3, hR]
  | cons b l =>
    simp at h2
    cases r with
    | nil => simp [h2, hR]
    | cons a r => simp at h3; simp [h2, h3, hR]
/-- PRINT OF PARSE -/
theorem join_parse {s l d r : List UInt8} (h : parseL s = some (l, d, r)) : rightJ l d r = true ∧ joinL l d r = s := by
  have e1 := cutB_join 47 s
  have e2 := cutB_join 64 (cutB 47 s).1
  unfold parseL at h
  simp only at h
  generalize hf : cutB 47 s = f at *
  obtain ⟨f1, f2, f3⟩ := f
  simp only at *
  generalize hg : cutB 64 f1 = g at *
  obtain ⟨g1, g2, g3⟩ := g
  simp only at *
  by_cases hn1 : (f3 && !partP f2) = true
  · rw [if_pos hn1] at h; cases h
  rw [if_neg hn1] at h
  by_cases hn2 : (g3 && !partP g1) = true
  · rw [if_pos hn2] at h; cases h
  rw [if_neg hn2] at h
  by_cases hr : rightJ (if g3 = true then g1 else []) (if g3 = true then g2 else f1) f2 = true
  case neg => rw [if_neg hr] at h; cases h
  rw [if_pos hr] at h
  simp only [Option.some.injEq, Prod.mk.injEq] at h
  obtain ⟨rfl, rfl, rfl⟩ := h
  refine ⟨hr, ?_⟩
  cases f3 with
  | false =>
    have hf2 : f2 = [] := by have := cutB_rest 47 s (by rw [hf]); rw [hf] at this; exact this
    subst hf2
    cases g3 with
    | false => simp at e1 e2 ⊢; unfold joinL; simp [e1]
    | true =>
      simp at hn2 e1 e2 ⊢
      have := (partP_letters hn2).2.1
      unfold joinL
      simp [this, e1, ← e2]
  | true =>
    simp at hn1
    have h2 := (partP_letters hn1).2.1
    cases g3 with
    | false => simp at e1 e2 ⊢; unfold joinL; simp [h2, e1]
    | true =>
      simp at hn2 e1 e2 ⊢
      have := (partP_letters hn2).2.1
      unfold joinL
      simp only [List.isEmpty_iff, this, h2, if_false]
      rw [e1, e2]
/-- an address whose text is not the text that was read -/
theorem parse_none {s : List UInt8} (h : parseL s = none) :
    rightJ (if (cutB 64 (cutB 47 s).1).2.2 then (cutB 64 (cutB 47 s).1).1 else []) (if (cutB 64 (cutB 47 s).1).2.2 then (cutB 64 (cutB 47 s).1).2.1 else (cutB 47 s).1) (cutB 47 s).2.1 = false ∨
    joinL (if (cutB 64 (cutB 47 s).1).2.2 then (cutB 64 (cutB 47 s).1).1 else []) (if (cutB 64 (cutB 47 s).1).2.2 then (cutB 64 (cutB 47 s).1).2.1 else (cutB 47 s).1) (cutB 47 s).2.1 ≠ s := by
  have e1 := cutB_join 47 s
  have e2 := cutB_join 64 (cutB 47 s).1
  unfold parseL at h
  simp only at h
  generalize hf : cutB 47 s = f at *
  obtain ⟨f1, f2, f3⟩ := f
  simp only at *
  generalize hg : cutB 64 f1 = g at *
  obtain ⟨g1, g2, g3⟩ := g
  simp only at *
  generalize hR : rightJ (if g3 = true then g1 else []) (if g3 = true then g2 else f1) f2 = R at *
  cases R with
  | false => exact .inl rfl
  | true =>
    refine .inr ?_
    simp only [rightJ, Bool.and_eq_true, Bool.or_eq_true, decide_eq_true_eq] at hR
    obtain ⟨⟨⟨h1, h2⟩, h3⟩, h4⟩ := hR
    simp only [if_true] at h
    split at h
    · rename_i hn
      simp only [Bool.and_eq_true, Bool.not_eq_true'] at hn
      obtain ⟨rfl, hn⟩ := hn
      have hf2 : f2 = [] := by
        rcases h3 with h3 | h3
        · simpa using h3
        · rw [hn] at h3; cases h3
      subst hf2
      intro hc
      have hl := congrArg List.length hc
      rw [e1] at hl
      cases g3 with
      | false => simp [joinL] at hl
      | true =>
        simp at e2
        rw [e2] at hl
        unfold joinL at hl
        by_cases hg1 : g1 = [] <;> simp [hg1] at hl <;> omega
    · split at h
      · rename_i hn
        simp only [Bool.and_eq_true, Bool.not_eq_true'] at hn
        obtain ⟨rfl, hn⟩ := hn
        simp at h2
        have hg1 : g1 = [] := by
          rcases h2 with h2 | h2
          · simpa using h2
          · rw [hn] at h2; cases h2
        subst hg1
        intro hc
        have hl := congrArg List.length hc
        simp at e2
        rw [e1, e2] at hl
        unfold joinL at hl
        simp at hl
        cases f3 with
        | false =>
          simp at hl
          have hf2 : f2 = [] := by have := cutB_rest 47 s (by rw [hf]); rw [hf] at this; exact this
          subst hf2
          simp at hl
        | true => simp at hl; split at hl <;> simp at hl <;> omega
      · cases h
theorem parse_at {s : List UInt8} {l d r : List UInt8} (h : parseL s = some (l, d, r)) :
    l = (if (cutB 64 (cutB 47 s).1).2.2 then (cutB 64 (cutB 47 s).1).1 else []) ∧ d = (if (cutB 64 (cutB 47 s).1).2.2 then (cutB 64 (cutB 47 s).1).2.1 else (cutB 47 s).1) ∧ r = (cutB 47 s).2.1 := by
  unfold parseL at h
  simp only at h
  generalize cutB 47 s = f at *
  obtain ⟨f1, f2, f3⟩ := f
  simp only at *
  generalize cutB 64 f1 = g at *
  obtain ⟨g1, g2, g3⟩ := g
  simp only at *
  by_cases hn1 : (f3 && !partP f2) = true
  · rw [if_pos hn1] at h; cases h
  rw [if_neg hn1] at h
  by_cases hn2 : (g3 && !partP g1) = true
  · rw [if_pos hn2] at h; cases h
  rw [if_neg hn2] at h
  by_cases hr : rightJ (if g3 = true then g1 else []) (if g3 = true then g2 else f1) f2 = true
  case neg => rw [if_neg hr] at h; cases h
  rw [if_pos hr] at h
  simp only [Option.some.injEq, Prod.mk.injEq] at h
  exact ⟨h.1.symm, h.2.1.symm, h.2.2.symm⟩

/-- small letters -/
def lowB (c : UInt8) : UInt8 := if 65 ≤ c && c ≤ 90 then c + 32 else c
def upB (c : UInt8) : UInt8 := if 97 ≤ c && c ≤ 122 then c - 32 else c
def lowL (l : List UInt8) : List UInt8 := l.map lowB
def upL (l : List UInt8) : List UInt8 := l.map upB
theorem all_u8 {p : UInt8 → Prop} (h : ∀ n : Fin 256, p (UInt8.ofNat n.val)) (c : UInt8) : p c := by
  have := h ⟨c.toNat, c.toNat_lt⟩
  simpa using this
theorem lowB_lowB (c : UInt8) : lowB (lowB c) = lowB c := all_u8 (p := fun c => lowB (lowB c) = lowB c) (by decide +kernel) c
theorem lowB_upB (c : UInt8) : lowB (upB c) = lowB c := all_u8 (p := fun c => lowB (upB c) = lowB c) (by decide +kernel) c
theorem letter_low (c : UInt8) : letterN (lowB c).toNat = letterN c.toNat := all_u8 (p := fun c => letterN (lowB c).toNat = letterN c.toNat) (by decide +kernel) c
theorem letter_up (c : UInt8) : letterN (upB c).toNat = letterN c.toNat := all_u8 (p := fun c => letterN (upB c).toNat = letterN c.toNat) (by decide +kernel) c
theorem lowL_lowL (l : List UInt8) : lowL (lowL l) = lowL l := by simp [lowL, lowB_lowB]
theorem lowL_upL (l : List UInt8) : lowL (upL l) = lowL l := by simp [lowL, upL, lowB_upB]
theorem length_low (l : List UInt8) : (lowL l).length = l.length := by simp [lowL]
theorem length_up (l : List UInt8) : (upL l).length = l.length := by simp [upL]
theorem letters_map {f : UInt8 → UInt8} (hf : ∀ c, letterN (f c).toNat = letterN c.toNat) (l : List UInt8) : lettersL (l.map f) = lettersL l := by
  simp [lettersL, List.all_map, Function.comp_def, hf]
theorem partP_map {f : UInt8 → UInt8} (hf : ∀ c, letterN (f c).toNat = letterN c.toNat) (l : List UInt8) : partP (l.map f) = partP l := by
  simp [partP, part0, letters_map hf]
theorem rightJ_map {f : UInt8 → UInt8} (hf : ∀ c, letterN (f c).toNat = letterN c.toNat) (l d r : List UInt8) : rightJ (l.map f) (d.map f) r = rightJ l d r := by
  have e : (joinL (l.map f) (d.map f) r).length = (joinL l d r).length := by unfold joinL; simp; split <;> simp
  unfold rightJ
  rw [partP_map hf, partP_map hf, e]
  simp
theorem rightJ_bare {l d r : List UInt8} (h : rightJ l d r = true) : rightJ l d [] = true := by
  simp only [rightJ, Bool.and_eq_true, Bool.or_eq_true, decide_eq_true_eq] at h ⊢
  obtain ⟨⟨⟨h1, h2⟩, h3⟩, h4⟩ := h
  refine ⟨⟨⟨h1, h2⟩, .inl rfl⟩, ?_⟩
  unfold joinL at *
  simp at *
  omega
theorem right0_eq (l d r : List UInt8) : ((l.isEmpty || part0 l) && part0 d && (r.isEmpty || part0 r) && decide (l.length ≤ 64) && decide (d.length ≤ 64) && decide (r.length ≤ 64) && decide ((joinL l d r).length ≤ 64)) = rightJ l d r := by
  unfold rightJ partP
  cases l with
  | nil => cases r with
    | nil => simp
    | cons b r => simp only [List.isEmpty_nil, List.isEmpty_cons, Bool.true_or, Bool.false_or, Bool.true_and, List.length_nil, Nat.zero_le, decide_true, Bool.and_true]; ac_rfl
  | cons a l => cases r with
    | nil => simp only [List.isEmpty_nil, List.isEmpty_cons, Bool.true_or, Bool.false_or, Bool.true_and, List.length_nil, Nat.zero_le, decide_true, Bool.and_true]; ac_rfl
    | cons b r => simp only [List.isEmpty_cons, Bool.false_or]; ac_rfl
/-- a map over a list, gone through so far -/
def mapTo (f : UInt8 → UInt8) (s : List UInt8) (k : Nat) : List UInt8 := (s.take k).map f ++ s.drop k
theorem mapTo_zero (f : UInt8 → UInt8) (s : List UInt8) : mapTo f s 0 = s := by simp [mapTo]
theorem mapTo_all (f : UInt8 → UInt8) (s : List UInt8) : mapTo f s s.length = s.map f := by simp [mapTo]
theorem mapTo_len (f : UInt8 → UInt8) (s : List UInt8) (k : Nat) : (mapTo f s k).length = s.length := by simp [mapTo]; omega
theorem mapTo_get (f : UInt8 → UInt8) (s : List UInt8) (k : Nat) (hk : k < s.length) : (mapTo f s k)[k]'(by rw [mapTo_len]; exact hk) = s[k] := by
  have e : ((s.take k).map f).length = k := by simp; omega
  simp only [mapTo]
  rw [List.getElem_append_right (by omega), List.getElem_drop]
  congr 1
  omega
theorem mapTo_set (f : UInt8 → UInt8) (s : List UInt8) (k : Nat) (hk : k < s.length) : (mapTo f s k).set k (f s[k]) = mapTo f s (k + 1) := by
  have e : ((s.take k).map f).length = k := by simp; omega
  unfold mapTo
  rw [List.set_append_right _ _ (by omega), e, Nat.sub_self, List.drop_eq_getElem_cons hk, List.set_cons_zero, List.take_succ_eq_append_getElem hk, List.map_append, List.append_assoc]
  rfl
theorem mapTo_skip (f : UInt8 → UInt8) (s : List UInt8) (k : Nat) (hk : k < s.length) (h : f s[k] = s[k]) : mapTo f s k = mapTo f s (k + 1) := by
  rw [← mapTo_set f s k hk, h, ← mapTo_get f s k hk]
  simp
theorem lowB_hit {c : UInt8} (h1 : 65 ≤ c.toNat) (h2 : c.toNat ≤ 90) : lowB c = c + 32 := by
  unfold lowB
  rw [if_pos (by simp [UInt8.le_iff_toNat_le]; omega)]
theorem lowB_miss {c : UInt8} (h : ¬ (65 ≤ c.toNat ∧ c.toNat ≤ 90)) : lowB c = c := by
  unfold lowB
  rw [if_neg (by simp [UInt8.le_iff_toNat_le]; omega)]
theorem upB_hit {c : UInt8} (h1 : 97 ≤ c.toNat) (h2 : c.toNat ≤ 122) : upB c = c - 32 := by
  unfold upB
  rw [if_pos (by simp [UInt8.le_iff_toNat_le]; omega)]
theorem upB_miss {c : UInt8} (h : ¬ (97 ≤ c.toNat ∧ c.toNat ≤ 122)) : upB c = c := by
  unfold upB
  rw [if_neg (by simp [UInt8.le_iff_toNat_le]; omega)]
theorem lowB_nat {c : UInt8} (h1 : 65 ≤ c.toNat) (h2 : c.toNat ≤ 90) : (lowB c).toNat = c.toNat + 32 := by
  rw [lowB_hit h1 h2, UInt8.toNat_add]
  simp
  omega
theorem upB_nat {c : UInt8} (h1 : 97 ≤ c.toNat) (h2 : c.toNat ≤ 122) : (upB c).toNat = c.toNat - 32 := by
  rw [upB_hit h1 h2, UInt8.toNat_sub_of_le _ _ (by simp [UInt8.le_iff_toNat_le]; omega)]
  rfl
end Go.Proofs.YtjpdadibeocpfaaDoor
