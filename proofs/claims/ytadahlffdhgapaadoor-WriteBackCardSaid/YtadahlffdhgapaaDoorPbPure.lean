/-
  A text of tokens, piece by piece, and what a parser that reads it byte by byte is to have at each byte. No program, no condition.
-/
import Derived.Test.YtadahlffdhgapaaDoorWrOps
import Derived.Test.YtadahlffdhgapaaDoorWrPrintPure
import Derived.Test.YtadahlffdhgapaaDoorPbChars
namespace Go.Proofs.YtadahlffdhgapaaDoor
set_option linter.unusedVariables false
set_option linter.unusedSimpArgs false
inductive Pc where
  | txt (t : List UInt8)
  | beg (n : List UInt8) (al : Ats)
  | emp (n : List UInt8) (al : Ats)
  | fin (n : List UInt8)
def Pc.isTxt : Pc → Bool
  | .txt _ => true
  | _ => false
/-- a piece's text -/
def Pc.text : Pc → List UInt8
  | .txt t => escL t
  | .beg n al => [60] ++ n ++ atsL al ++ [62]
  | .emp n al => [60] ++ n ++ atsL al ++ [47] ++ [62]
  | .fin n => [60, 47] ++ n ++ [62]
/-- a tag's text but its last byte -/
def Pc.body : Pc → List UInt8
  | .txt t => escL t
  | .beg n al => [60] ++ n ++ atsL al
  | .emp n al => [60] ++ n ++ atsL al ++ [47]
  | .fin n => [60, 47] ++ n
theorem Pc.text_body (p : Pc) (h : p.isTxt = false) : p.text = p.body ++ [62] := by
  cases p <;> first | rfl | cases h
def Pc.toks : Pc → List Tk
  | .txt t => [⟨3, [], [], t⟩]
  | .beg n al => [⟨1, n, al, []⟩]
  | .emp n al => [⟨1, n, al, []⟩, ⟨2, n, [], []⟩]
  | .fin n => [⟨2, n, [], []⟩]
def piecesOf : List Tk → List Pc
  | [] => []
  | tk :: r =>
    if tk.k = 3 then .txt tk.t :: piecesOf r
    else if tk.k = 2 then .fin tk.n :: piecesOf r
    else match r with
      | e :: r' => if e.k = 2 then .emp tk.n tk.as :: piecesOf r' else .beg tk.n tk.as :: piecesOf (e :: r')
      | [] => [.beg tk.n tk.as]
/-- pieces that can come where these are open (pt: a text came before; rt: an element was open) -/
def PcOk : List (List UInt8) → Bool → Bool → List Pc → Prop
  | op, _, _, [] => op = []
  | op, pt, rt, .txt t :: r => op ≠ [] ∧ pt = false ∧ t ≠ [] ∧ fitsP t = true ∧ op.length ≤ 8 ∧ PcOk op true rt r
  | op, _, rt, .beg n al :: r => nameP n = true ∧ attrsP [] al = true ∧ op.length < 8 ∧ (op ≠ [] ∨ rt = false) ∧ PcOk (op ++ [n]) false true r
  | op, _, rt, .emp n al :: r => nameP n = true ∧ attrsP [] al = true ∧ op.length < 8 ∧ (op ≠ [] ∨ rt = false) ∧ PcOk op false true r
  | op, _, rt, .fin n :: r => nameP n = true ∧ (∃ op', op = op' ++ [n] ∧ op'.length < 8 ∧ PcOk op' false rt r)
theorem print_pieces : ∀ l : List Tk, printR l = (piecesOf l).flatMap Pc.text
  | [] => rfl
  | [tk] => by
    unfold printR piecesOf
    by_cases h3 : tk.k = 3
    · simp [h3, Pc.text, printR, piecesOf]
    · by_cases h2 : tk.k = 2
      · simp [h2, Pc.text, printR, piecesOf]
      · simp [h3, h2, Pc.text]
  | tk :: e :: r => by
    have ih1 := print_pieces (e :: r)
    have ih2 := print_pieces r
    rw [printR.eq_def, piecesOf.eq_def]
    by_cases h3 : tk.k = 3
    · simp [h3, Pc.text, ih1]
    · by_cases h2 : tk.k = 2
      · simp [h2, Pc.text, ih1]
      · by_cases e2 : e.k = 2
        · simp [h3, h2, e2, Pc.text, ih2]
        · simp [h3, h2, e2, Pc.text, ih1]
/-- how a right row of tokens goes on -/
def RunsOk (prev : Int) (op : List (List UInt8)) (rt : Bool) : List Tk → Prop
  | [] => op = []
  | tk :: r => (tk.k = 1 → op ≠ [] ∨ rt = false) ∧ ∃ op', stepT prev op tk = some op' ∧ RunsOk tk.k op' (rt || decide (tk.k = 1)) r
theorem runs_of (l : List Tk) (h : opsTo l l.length = some []) (hw : ∀ j, j < l.length - 1 → opsTo l (j + 1) ≠ some []) : ∀ m i, i + m = l.length → ∀ op rt, (i = 0 → rt = false) → opsTo l i = some op → RunsOk (prevK l i) op rt (l.drop i)
  | 0, i, hi, op, rt, hr, ho => by
    have : i = l.length := by omega
    subst this
    rw [List.drop_length]
    rw [h] at ho
    exact (Option.some.inj ho).symm
  | m + 1, i, hi, op, rt, hr, ho => by
    have hlt : i < l.length := by omega
    rw [List.drop_eq_getElem_cons hlt]
    have h1 := opsTo_some (l := l) (m := i + 1) (n := l.length) (by omega) (by rw [h]; rfl)
    obtain ⟨op', hop⟩ := Option.isSome_iff_exists.1 h1
    have hst := hop
    rw [opsTo, ho, List.getElem?_eq_getElem hlt] at hst
    refine ⟨fun _ => ?_, op', hst, ?_⟩
    · rcases Nat.eq_zero_or_pos i with h0 | h0
      · exact .inr (hr h0)
      · refine .inl fun e => hw (i - 1) (by omega) ?_
        rw [show i - 1 + 1 = i by omega, ho, e]
    · have ih := runs_of l h hw m (i + 1) (by omega) op' (rt || decide ((l[i]'hlt).k = 1)) (by omega) hop
      have e : prevK l (i + 1) = (l[i]'hlt).k := by
        unfold prevK
        rw [if_neg (by omega), Nat.add_sub_cancel, List.getElem?_eq_getElem hlt]; rfl
      rw [e] at ih; exact ih
theorem step_1 {prev : Int} {op op' : List (List UInt8)} {tk : Tk} (h : stepT prev op tk = some op') (hk : tk.k = 1) : rightT tk = true ∧ op.length < 8 ∧ op' = op ++ [tk.n] := by
  unfold stepT at h
  cases hr : rightT tk with
  | false => rw [if_pos hr] at h; cases h
  | true =>
    rw [if_neg (by rw [hr]; decide)] at h
    split at h
    · rename_i h1; injection h with h; exact ⟨rfl, h1.2, h.symm⟩
    · rename_i h1
      rw [hk] at h
      simp at h
theorem step_2 {prev : Int} {op op' : List (List UInt8)} {tk : Tk} (h : stepT prev op tk = some op') (hk : tk.k = 2) : rightT tk = true ∧ op = op' ++ [tk.n] := by
  unfold stepT at h
  cases hr : rightT tk with
  | false => rw [if_pos hr] at h; cases h
  | true =>
    rw [if_neg (by rw [hr]; decide), if_neg (by rw [hk]; intro h; exact absurd h.1 (by decide))] at h
    split at h
    · rename_i h1
      injection h with h
      refine ⟨rfl, ?_⟩
      obtain ⟨_, h2, h3⟩ := h1
      have hne : op ≠ [] := by intro e; rw [e] at h2; exact absurd h2 (by decide)
      rw [← h, ← h3, ← List.dropLast_eq_take]
      have hg : op.getD (op.length - 1) [] = op.getLast hne := by
        rw [List.getLast_eq_getElem, List.getD_eq_getElem?_getD, List.getElem?_eq_getElem (by omega)]; rfl
      rw [hg, List.dropLast_concat_getLast]
    · rename_i h1
      rw [if_neg (by rw [hk]; intro h; exact absurd h.1 (by decide))] at h
      cases h
theorem step_3 {prev : Int} {op op' : List (List UInt8)} {tk : Tk} (h : stepT prev op tk = some op') (hk : tk.k = 3) : rightT tk = true ∧ op' = op ∧ op ≠ [] ∧ prev ≠ 3 := by
  unfold stepT at h
  cases hr : rightT tk with
  | false => rw [if_pos hr] at h; cases h
  | true =>
    rw [if_neg (by rw [hr]; decide), if_neg (by rw [hk]; intro h; exact absurd h.1 (by decide)), if_neg (by rw [hk]; intro h; exact absurd h.1 (by decide))] at h
    split at h
    · rename_i h1
      injection h with h
      exact ⟨rfl, h.symm, fun e => by rw [e] at h1; exact absurd h1.2.1 (by decide), h1.2.2⟩
    · cases h
theorem step_k {prev : Int} {op op' : List (List UInt8)} {tk : Tk} (h : stepT prev op tk = some op') : rightT tk = true := by
  unfold stepT at h
  cases hr : rightT tk with
  | false => rw [if_pos hr] at h; cases h
  | true => rfl
theorem right_3 {tk : Tk} (h : rightT tk = true) (hk : tk.k = 3) : tk = ⟨3, [], [], tk.t⟩ ∧ tk.t ≠ [] ∧ fitsP tk.t = true := by
  obtain ⟨k, n, a, t⟩ := tk
  simp only at hk
  subst hk
  simp [rightT] at h
  obtain ⟨⟨⟨h1, h2⟩, h3⟩, h4⟩ := h
  subst h1 h2
  exact ⟨rfl, h3, h4⟩
theorem right_2 {tk : Tk} (h : rightT tk = true) (hk : tk.k = 2) : tk = ⟨2, tk.n, [], []⟩ ∧ nameP tk.n = true := by
  obtain ⟨k, n, a, t⟩ := tk
  simp only at hk
  subst hk
  simp [rightT] at h
  obtain ⟨⟨h1, h2⟩, h3⟩ := h
  subst h2 h3
  exact ⟨rfl, h1⟩
theorem right_1 {tk : Tk} (h : rightT tk = true) (hk : tk.k = 1) : tk = ⟨1, tk.n, tk.as, []⟩ ∧ nameP tk.n = true ∧ attrsP [] tk.as = true := by
  obtain ⟨k, n, a, t⟩ := tk
  simp only at hk
  subst hk
  simp [rightT] at h
  obtain ⟨⟨h1, h2⟩, h3⟩ := h
  subst h3
  exact ⟨rfl, h2, h1⟩
theorem pieces_ok : ∀ (l : List Tk) (prev : Int) (op : List (List UInt8)) (rt : Bool), op.length ≤ 8 → RunsOk prev op rt l → PcOk op (decide (prev = 3)) rt (piecesOf l) ∧ l = (piecesOf l).flatMap Pc.toks
  | [], prev, op, rt, _, h => ⟨h, rfl⟩
  | tk :: r, prev, op, rt, h8, h => by
    obtain ⟨hrt, op', hst, hr⟩ := h
    have hR := step_k hst
    rcases right_kind hR with hk | hk | hk
    · obtain ⟨_, h8', rfl⟩ := step_1 hst hk
      obtain ⟨e1, e2, e3⟩ := right_1 hR hk
      rw [hk] at hr
      simp only [decide_true, Bool.or_true] at hr
      cases r with
      | nil => exact absurd hr (by simp [RunsOk])
      | cons e r =>
        rw [piecesOf.eq_def]
        simp only [hk]
        by_cases hek : e.k = 2
        · obtain ⟨_, op2, hst2, hr2⟩ := hr
          obtain ⟨f1, f2⟩ := step_2 hst2 hek
          obtain ⟨g1, g2⟩ := right_2 f1 hek
          obtain ⟨hop, hn⟩ := List.append_inj' f2 rfl
          injection hn with hn _
          subst hop
          rw [hek] at hr2
          have ih := pieces_ok r 2 op _ h8 hr2
          rw [if_neg (by decide), if_neg (by decide), if_pos hek]
          refine ⟨⟨e2, e3, h8', hrt hk, ?_⟩, ?_⟩
          · simpa using ih.1
          · rw [List.flatMap_cons, ← ih.2, e1, g1, hn]; rfl
        · have ih := pieces_ok (e :: r) 1 (op ++ [tk.n]) _ (by simp; omega) hr
          rw [if_neg (by decide), if_neg (by decide), if_neg hek]
          refine ⟨⟨e2, e3, h8', hrt hk, ?_⟩, ?_⟩
          · simpa using ih.1
          · rw [List.flatMap_cons, ← ih.2, e1]; rfl
    · obtain ⟨_, hop⟩ := step_2 hst hk
      obtain ⟨e1, e2⟩ := right_2 hR hk
      rw [hk] at hr
      have hl : op'.length < 8 := by rw [hop] at h8; simp at h8; omega
      have ih := pieces_ok r 2 op' _ (by omega) hr
      rw [piecesOf.eq_def]
      simp only [hk]
      rw [if_neg (by decide), if_pos trivial]
      refine ⟨⟨e2, op', hop, hl, by simpa using ih.1⟩, ?_⟩
      rw [List.flatMap_cons, ← ih.2]; exact congrArg (· :: r) e1
    · obtain ⟨_, hop, hne, hp⟩ := step_3 hst hk
      obtain ⟨e1, e2, e3⟩ := right_3 hR hk
      subst hop
      rw [hk] at hr
      have ih := pieces_ok r 3 op' _ h8 hr
      rw [piecesOf.eq_def]
      simp only [hk]
      rw [if_pos trivial]
      refine ⟨⟨hne, by simpa using hp, e2, e3, h8, by simpa using ih.1⟩, ?_⟩
      rw [List.flatMap_cons, ← ih.2]; exact congrArg (· :: r) e1
theorem whole_pieces {l : List Tk} (h : wholeL l = true) : PcOk [] false false (piecesOf l) ∧ l = (piecesOf l).flatMap Pc.toks ∧ printR l = (piecesOf l).flatMap Pc.text := by
  obtain ⟨h1, h2, h3⟩ := whole_right h
  have hr := runs_of l (right_ops h1) h3 l.length 0 (by omega) [] false (fun _ => rfl) rfl
  have := pieces_ok l 0 [] false (by simp) hr
  exact ⟨this.1, this.2, print_pieces l⟩
/-! ### quotes -/
def qStep (q c : UInt8) : UInt8 := if q ≠ 0 ∧ c = q then 0 else if q = 0 ∧ (c = 39 ∨ c = 34) then c else q
def qSt (l : List UInt8) (q : UInt8) : UInt8 := l.foldl qStep q
theorem qSt_app (a b : List UInt8) (q : UInt8) : qSt (a ++ b) q = qSt b (qSt a q) := by unfold qSt; rw [List.foldl_append]
theorem qSt_plain : ∀ (l : List UInt8) (q : UInt8), (∀ b ∈ l, b ≠ 39 ∧ b ≠ 34) → (q = 0 ∨ q = 39) → qSt l q = q
  | [], q, _, _ => rfl
  | c :: l, q, h, hq => by
    obtain ⟨h1, h2⟩ := h c (by simp)
    have e : qStep q c = q := by
      unfold qStep
      rcases hq with rfl | rfl
      · simp [h1, h2]
      · simp [h1]
    show qSt l (qStep q c) = q
    rw [e]
    exact qSt_plain l q (fun b hb => h b (by simp [hb])) hq
theorem name_bytes {n : List UInt8} (h : nameP n = true) : n ≠ [] ∧ n.length ≤ 32 ∧ ∀ i (hi : i < n.length), nameAt i (n[i]'hi).toNat = true := by
  simp only [nameP, Bool.and_eq_true, decide_eq_true_eq, Bool.not_eq_true', beq_eq_false_iff_ne] at h
  exact ⟨h.1.2, h.2, fun i hi => h.1.1 i hi hi⟩
/-- may a byte be in a name? -/
def nameC (c : UInt8) : Bool := nameAt 1 c.toNat
theorem nameAt_C {i : Nat} {c : UInt8} (h : nameAt i c.toNat = true) : nameC c = true := by
  unfold nameC
  unfold nameAt at h ⊢
  rw [decide_eq_true_eq] at h ⊢
  omega
theorem name_all {n : List UInt8} (h : nameP n = true) : ∀ b ∈ n, nameC b = true := fun b hb => by
  obtain ⟨i, hi, rfl⟩ := List.getElem_of_mem hb
  exact nameAt_C ((name_bytes h).2.2 i hi)
theorem nameC_ne {b : UInt8} (h : nameC b = true) : b ≠ 60 ∧ b ≠ 62 ∧ b ≠ 39 ∧ b ≠ 34 ∧ b ≠ 32 ∧ b ≠ 61 ∧ b ≠ 47 ∧ b ≠ 33 ∧ b ≠ 63 ∧ b ≠ 38 ∧ 32 ≤ b.toNat ∧ b.toNat < 128 := by
  have hn : ∀ k : UInt8, nameAt 1 k.toNat = false → b ≠ k := fun k hk e => by subst e; unfold nameC at h; rw [hk] at h; cases h
  refine ⟨hn _ (by decide), hn _ (by decide), hn _ (by decide), hn _ (by decide), hn _ (by decide), hn _ (by decide), hn _ (by decide), hn _ (by decide), hn _ (by decide), hn _ (by decide), ?_, ?_⟩ <;>
  · unfold nameC nameAt at h; rw [decide_eq_true_eq] at h; omega
theorem attrs_each : ∀ (seen : List (List UInt8)) (al : Ats), attrsP seen al = true → ∀ p ∈ al, nameP p.1 = true ∧ fitsP p.2 = true
  | _, [], _, p, hp => by cases hp
  | seen, q :: r, h, p, hp => by
    rw [attrsP] at h
    simp only [Bool.and_eq_true, decide_eq_true_eq] at h
    rcases List.mem_cons.1 hp with rfl | hp
    · exact ⟨h.1.1.1.2, h.1.1.2⟩
    · exact attrs_each _ r h.2 p hp
theorem fits_chars {s : List UInt8} (h : fitsP s = true) : charsP s = true := by
  simp only [fitsP, Bool.and_eq_true] at h
  exact h.2
/-- a tag's text but its last byte holds no end of a tag, and its quotes are shut -/
theorem atP_facts {p : List UInt8 × List UInt8} (h1 : nameP p.1 = true) (h2 : fitsP p.2 = true) : (∀ b ∈ atP p, b ≠ 62 ∧ b ≠ 60) ∧ qSt (atP p) 0 = 0 ∧ XC (atP p) := by
  refine ⟨fun b hb => ?_, ?_, ?_⟩
  · simp only [atP, List.mem_append, List.mem_cons, List.not_mem_nil, or_false] at hb
    rcases hb with (((rfl | hb) | rfl | rfl) | hb) | rfl
    · decide
    · have := nameC_ne (name_all h1 b hb); exact ⟨this.2.1, this.1⟩
    · decide
    · decide
    · have := escL_no p.2 b hb; exact ⟨this.2.1, this.1⟩
    · decide
  · unfold atP
    rw [qSt_app, qSt_app, qSt_app, qSt_app]
    rw [show qSt [32] 0 = 0 by decide, qSt_plain p.1 0 (fun b hb => by have := nameC_ne (name_all h1 b hb); exact ⟨this.2.2.1, this.2.2.2.1⟩) (.inl rfl),
      show qSt [61, 39] 0 = 39 by decide, qSt_plain (escL p.2) 39 (fun b hb => by have := escL_no p.2 b hb; exact ⟨this.2.2.1, this.2.2.2⟩) (.inr rfl)]
    decide
  · unfold atP
    refine XC.app (XC.app (XC.app (XC.app (XC.ascii (by decide)) (XC.ascii fun b hb => ?_)) (XC.ascii (by decide))) ((chars_XC p.2).1 (fits_chars h2)).esc) (XC.ascii (by decide))
    have := nameC_ne (name_all h1 b hb); exact this.2.2.2.2.2.2.2.2.2.2
theorem atsL_facts : ∀ {al : Ats}, (∀ p ∈ al, nameP p.1 = true ∧ fitsP p.2 = true) → (∀ b ∈ atsL al, b ≠ 62 ∧ b ≠ 60) ∧ qSt (atsL al) 0 = 0 ∧ XC (atsL al)
  | [], _ => ⟨fun b hb => (by cases hb), rfl, .nil⟩
  | p :: r, h => by
    obtain ⟨a1, a2, a3⟩ := atP_facts (h p (by simp)).1 (h p (by simp)).2
    obtain ⟨b1, b2, b3⟩ := atsL_facts (al := r) fun q hq => h q (by simp [hq])
    have e : atsL (p :: r) = atP p ++ atsL r := by unfold atsL; rw [List.flatMap_cons]
    rw [e]
    refine ⟨fun b hb => ?_, ?_, a3.app b3⟩
    · rcases List.mem_append.1 hb with hb | hb
      · exact a1 b hb
      · exact b1 b hb
    · rw [qSt_app, a2, b2]
theorem name_facts {n : List UInt8} (h : nameP n = true) : (∀ b ∈ n, b ≠ 62 ∧ b ≠ 60) ∧ qSt n 0 = 0 ∧ XC n :=
  ⟨fun b hb => by have := nameC_ne (name_all h b hb); exact ⟨this.2.1, this.1⟩, qSt_plain n 0 (fun b hb => by have := nameC_ne (name_all h b hb); exact ⟨this.2.2.1, this.2.2.2.1⟩) (.inl rfl),
    XC.ascii fun b hb => by have := nameC_ne (name_all h b hb); exact this.2.2.2.2.2.2.2.2.2.2⟩
/-- what a tag's name and attributes must be -/
def Pc.good : Pc → Prop
  | .txt t => t ≠ [] ∧ fitsP t = true
  | .beg n al => nameP n = true ∧ attrsP [] al = true
  | .emp n al => nameP n = true ∧ attrsP [] al = true
  | .fin n => nameP n = true
theorem PcOk.good {op : List (List UInt8)} {pt rt : Bool} {p : Pc} {r : List Pc} (h : PcOk op pt rt (p :: r)) : p.good := by
  cases p with
  | txt t => exact ⟨h.2.2.1, h.2.2.2.1⟩
  | beg n al => exact ⟨h.1, h.2.1⟩
  | emp n al => exact ⟨h.1, h.2.1⟩
  | fin n => exact h.1
theorem body_facts {p : Pc} (h : p.good) (ht : p.isTxt = false) : (∃ b, p.body = 60 :: b ∧ b ≠ [] ∧ ∀ x ∈ b, x ≠ 62 ∧ x ≠ 60) ∧ qSt p.body 0 = 0 ∧ charsP p.text = true := by
  have app : ∀ {a b : List UInt8}, (∀ x ∈ a, x ≠ 62 ∧ x ≠ 60) → (∀ x ∈ b, x ≠ 62 ∧ x ≠ 60) → ∀ x ∈ a ++ b, x ≠ 62 ∧ x ≠ 60 := fun h1 h2 x hx => by
    rcases List.mem_append.1 hx with hx | hx
    · exact h1 x hx
    · exact h2 x hx
  rw [chars_XC]
  cases p with
  | txt t => cases ht
  | beg n al =>
    obtain ⟨h1, h2⟩ := h
    obtain ⟨a1, a2, a3⟩ := name_facts h1
    obtain ⟨b1, b2, b3⟩ := atsL_facts (attrs_each [] al h2)
    refine ⟨⟨n ++ atsL al, by simp [Pc.body], by simp [(name_bytes h1).1], app a1 b1⟩, ?_, ?_⟩
    · unfold Pc.body; rw [qSt_app, qSt_app, show qSt [60] 0 = 0 by decide, a2, b2]
    · unfold Pc.text; exact ((((XC.ascii (by decide)).app a3).app b3).app (XC.ascii (by decide)))
  | emp n al =>
    obtain ⟨h1, h2⟩ := h
    obtain ⟨a1, a2, a3⟩ := name_facts h1
    obtain ⟨b1, b2, b3⟩ := atsL_facts (attrs_each [] al h2)
    refine ⟨⟨n ++ atsL al ++ [47], by simp [Pc.body], by simp, app (app a1 b1) (by decide)⟩, ?_, ?_⟩
    · unfold Pc.body; rw [qSt_app, qSt_app, qSt_app, show qSt [60] 0 = 0 by decide, a2, b2]; decide
    · unfold Pc.text; exact (((((XC.ascii (by decide)).app a3).app b3).app (XC.ascii (by decide))).app (XC.ascii (by decide)))
  | fin n =>
    obtain ⟨a1, a2, a3⟩ := name_facts h
    refine ⟨⟨[47] ++ n, by simp [Pc.body], by simp, app (by decide) a1⟩, ?_, ?_⟩
    · unfold Pc.body; rw [qSt_app, show qSt [60, 47] 0 = 0 by decide, a2]
    · unfold Pc.text; exact ((XC.ascii (by decide)).app a3).app (XC.ascii (by decide))
end Go.Proofs.YtadahlffdhgapaaDoor
