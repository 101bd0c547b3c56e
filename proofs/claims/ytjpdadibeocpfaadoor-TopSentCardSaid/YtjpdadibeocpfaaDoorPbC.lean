/-
  Characters that may be in XML, piece by piece: a text put together of such is such; so is one with entities. No program, no condition.
-/
import Derived.Test.YtjpdadibeocpfaaDoorChEq
import Derived.Test.YtjpdadibeocpfaaDoorTxEsc
import Derived.Lib.TrimAscii
import Derived.Test.YtjpdadibeocpfaaDoorWrOps
import Derived.Test.YtjpdadibeocpfaaDoorWrPrintPure
import Derived.Lib.Strings
namespace Go.Proofs.YtjpdadibeocpfaaDoor
set_option linter.unusedVariables false
set_option linter.unusedSimpArgs false
open Go.RowKit
def okD (l : List UInt8) : Bool := !decide ((Lib.decodeL l).1 = 65533 ∧ (Lib.decodeL l).2 = 1) && okV (Lib.decodeL l).1
def charsG : Nat → List UInt8 → Bool
  | 0, _ => true
  | n + 1, l => if l = [] then true else okD l && charsG n (l.drop (Lib.decodeL l).2)
theorem charsG_eq (s : List UInt8) : ∀ n pos, (Lib.validGoD n (s.drop pos) && charsV s n pos) = charsG n (s.drop pos)
  | 0, _ => rfl
  | n + 1, pos => by
    unfold charsV Lib.validGoD charsG
    by_cases h : pos < s.length
    · have h0 : s.drop pos ≠ [] := by simp; omega
      rw [if_pos h, if_neg h0, if_neg h0, dec_at, List.drop_drop, ← charsG_eq s n (pos + (Lib.decodeL (s.drop pos)).2)]
      unfold okD
      by_cases hc : (Lib.decodeL (s.drop pos)).1 = 65533 ∧ (Lib.decodeL (s.drop pos)).2 = 1
      · rw [if_pos hc]; simp [hc]
      · rw [if_neg hc]
        simp only [hc, decide_false, Bool.not_false, Bool.true_and]
        cases okV (Lib.decodeL (s.drop pos)).1 <;> simp [Bool.and_left_comm]
    · have h0 : s.drop pos = [] := by simp; omega
      rw [if_neg h, if_pos h0, if_pos h0]; rfl
theorem chars_G (s : List UInt8) : charsP s = charsG s.length s := by
  rw [chars_valid]
  have := charsG_eq s s.length 0
  simpa [Lib.validD] using this
/-- one character's bytes -/
def Unit1 (u : List UInt8) : Prop := (∃ c : UInt8, u = [c] ∧ c.toNat < 128 ∧ (32 ≤ c.toNat ∨ c.toNat = 9 ∨ c.toNat = 10 ∨ c.toNat = 13)) ∨
  (2 ≤ u.length ∧ (∀ b ∈ u, 128 ≤ b.toNat) ∧ ∃ c, okV c = true ∧ ∀ r, Lib.decodeL (u ++ r) = (c, u.length))
inductive XC : List UInt8 → Prop
  | nil : XC []
  | step (u r : List UInt8) : Unit1 u → XC r → XC (u ++ r)
theorem XC.app {a b : List UInt8} (ha : XC a) (hb : XC b) : XC (a ++ b) := by
  induction ha with
  | nil => exact hb
  | step u r hu _ ih => rw [List.append_assoc]; exact .step u _ hu ih
theorem XC.one {c : UInt8} (h : c.toNat < 128) (h2 : 32 ≤ c.toNat) : XC [c] := by
  have := XC.step [c] [] (.inl ⟨c, rfl, h, .inl h2⟩) .nil
  simpa using this
theorem XC.ascii : ∀ {l : List UInt8}, (∀ b ∈ l, 32 ≤ b.toNat ∧ b.toNat < 128) → XC l
  | [], _ => .nil
  | c :: l, h => by
    have h1 := h c (by simp)
    exact .step [c] l (.inl ⟨c, rfl, h1.2, .inl h1.1⟩) (XC.ascii fun b hb => h b (by simp [hb]))
theorem XC.chars {l : List UInt8} (h : XC l) : ∀ n, charsG n l = true := by
  induction h with
  | nil => intro n; cases n <;> simp [charsG]
  | step u r hu _ ih =>
    intro n
    cases n with
    | zero => rfl
    | succ n =>
      unfold charsG
      split
      · rfl
      · rcases hu with ⟨c, rfl, h1, h2⟩ | ⟨h1, h2, c, h3, h4⟩
        · have e : Lib.decodeL ([c] ++ r) = (c.toNat, 1) := Lib.decodeL_ascii c r h1
          unfold okD
          rw [e]
          have : okV c.toNat = true := by unfold okV; rw [decide_eq_true_eq]; omega
          simp [this, ih n]
          omega
        · unfold okD
          rw [h4 r]
          have hl : ¬ u.length = 1 := by omega
          simp [h3, ih n, hl]
set_option maxRecDepth 100000 in
set_option maxHeartbeats 4000000 in
theorem decN_unit (n b0 b1 b2 b3 : Nat) (h0 : 128 ≤ b0) (hb : ¬ ((Lib.decodeN n b0 b1 b2 b3).1 = 65533 ∧ (Lib.decodeN n b0 b1 b2 b3).2 = 1)) :
    ((Lib.decodeN n b0 b1 b2 b3).2 = 2 ∧ 2 ≤ n ∧ b1 / 64 = 2) ∨ ((Lib.decodeN n b0 b1 b2 b3).2 = 3 ∧ 3 ≤ n ∧ b1 / 64 = 2 ∧ b2 / 64 = 2) ∨ ((Lib.decodeN n b0 b1 b2 b3).2 = 4 ∧ 4 ≤ n ∧ b1 / 64 = 2 ∧ b2 / 64 = 2 ∧ b3 / 64 = 2) := by
  revert hb
  unfold Lib.decodeN
  repeat' split
  all_goals simp only
  all_goals intro hb
  all_goals first | omega | (simp at hb; done) | (clear hb; simp; omega)
theorem getD_lt (l : List UInt8) (i : Nat) (h : i < l.length) : l.getD i 0 = l[i] := by simp [List.getD, h]
theorem unit_of (l : List UInt8) (hne : l ≠ []) (hok : okD l = true) : ∃ u r, l = u ++ r ∧ Unit1 u ∧ u.length = (Lib.decodeL l).2 := by
  unfold okD at hok
  simp only [Bool.and_eq_true, Bool.not_eq_true', decide_eq_false_iff_not] at hok
  obtain ⟨h1, h2⟩ := hok
  cases l with
  | nil => exact absurd rfl hne
  | cons c t =>
    by_cases hc : c.toNat < 128
    · rw [Lib.decodeL_ascii c t hc] at h1 h2 ⊢
      refine ⟨[c], t, rfl, .inl ⟨c, rfl, hc, ?_⟩, rfl⟩
      unfold okV at h2
      rw [decide_eq_true_eq] at h2
      exact h2.2.2
    · have hN := Lib.decodeL_N (c :: t)
      rw [hN] at h1
      have hu := decN_unit _ _ _ _ _ (by simpa using (by omega : 128 ≤ c.toNat)) h1
      rw [← hN] at hu
      have key : ∀ d, 2 ≤ d → d ≤ 4 → d ≤ (c :: t).length → (Lib.decodeL (c :: t)).2 = d → (∀ b ∈ (c :: t).take d, 128 ≤ b.toNat) → ∃ u r, c :: t = u ++ r ∧ Unit1 u ∧ u.length = (Lib.decodeL (c :: t)).2 := fun d hd2 hd4 hdn hdd hall => by
        have hlen : ((c :: t).take d).length = d := by rw [List.length_take]; omega
        have hg : ∀ r i, i < d → ((c :: t).take d ++ r).getD i 0 = (c :: t).getD i 0 := fun r i hi => by
          rw [getD_lt _ _ (by rw [List.length_append, hlen]; omega), getD_lt _ _ (by omega), List.getElem_append_left (by rw [hlen]; exact hi), List.getElem_take]
        have hd : ∀ r, Lib.decodeL ((c :: t).take d ++ r) = Lib.decodeL (c :: t) := fun r => by
          have hA : Lib.decodeL ((c :: t).take d) = Lib.decodeL (c :: t) := by
            have h3 := hN
            have hgg := fun i hi => hg [] i hi
            simp only [List.append_nil] at hgg
            rw [Lib.decodeL_N ((c :: t).take d), hlen]
            rw [hN] at hdd ⊢
            have hx : ∀ i, (c :: t).getD i 0 = ((c :: t).take d).getD i 0 ∨ d ≤ i := fun i => by
              rcases Nat.lt_or_ge i d with h | h
              · exact .inl (hgg i h).symm
              · exact .inr h
            rw [hgg 0 (by omega), hgg 1 (by omega)]
            clear hx
            have e2 : 2 < d → (((c :: t).take d).getD 2 0).toNat = ((c :: t).getD 2 0).toNat := fun h => by rw [hgg 2 h]
            have e3 : 3 < d → (((c :: t).take d).getD 3 0).toNat = ((c :: t).getD 3 0).toNat := fun h => by rw [hgg 3 h]
            generalize (((c :: t).take d).getD 2 0).toNat = x2 at *
            generalize (((c :: t).take d).getD 3 0).toNat = x3 at *
            have b1 := ((c :: t).getD 1 0).toNat_lt
            generalize ((c :: t).getD 0 0).toNat = b0 at *
            generalize ((c :: t).getD 1 0).toNat = b1 at *
            generalize ((c :: t).getD 2 0).toNat = b2 at *
            generalize ((c :: t).getD 3 0).toNat = b3 at *
            generalize (c :: t).length = n at *
            clear hN h3 hg hgg hu h1 h2 hlen hall
            unfold Lib.decodeN at hdd ⊢
            repeat' split at hdd
            all_goals first | (exfalso; simp only at hdd; omega) | skip
            all_goals (simp only at hdd; subst hdd)
            · simp_all
            · have := e2 (by omega); subst this; simp_all
            · have := e2 (by omega); subst this; have := e3 (by omega); subst this; simp_all
          have hB := Lib.decodeL_N ((c :: t).take d)
          have hm := Lib.decodeN_more ((c :: t).take d).length ((c :: t).take d ++ r).length _ _ _ _ (((c :: t).take d ++ r).getD 1 0).toNat (((c :: t).take d ++ r).getD 2 0).toNat (((c :: t).take d ++ r).getD 3 0).toNat (by rw [hlen]; exact hd2) (by rw [List.length_append]; omega) (by rw [← hB, hA, hlen]; exact hdd)
            (fun h => by rw [hg r 1 (by omega)]; have := hg [] 1 (by omega); simp only [List.append_nil] at this; rw [this]) (fun h => by rw [hlen] at h; rw [hg r 2 h]; have := hg [] 2 h; simp only [List.append_nil] at this; rw [this]) (fun h => by rw [hlen] at h; rw [hg r 3 h]; have := hg [] 3 h; simp only [List.append_nil] at this; rw [this])
          have e0 : ((c :: t).take d ++ r).getD 0 0 = ((c :: t).take d).getD 0 0 := by
            have := hg [] 0 (by omega); simp only [List.append_nil] at this
            rw [hg r 0 (by omega), this]
          rw [Lib.decodeL_N ((c :: t).take d ++ r), e0, hm, ← hB, hA]
        refine ⟨(c :: t).take d, (c :: t).drop d, (List.take_append_drop _ _).symm, .inr ⟨by rw [hlen]; exact hd2, hall, (Lib.decodeL (c :: t)).1, h2, fun r => ?_⟩, by rw [hlen, hdd]⟩
        rw [hd r, hlen, ← hdd]
      have hb : ∀ i (h : i < (c :: t).length), ((c :: t).getD i 0).toNat / 64 = 2 → 128 ≤ ((c :: t)[i]).toNat := fun i h e => by
        rw [getD_lt _ _ h] at e; omega
      have hc0 : 128 ≤ c.toNat := by omega
      rcases hu with ⟨e, hn, k1⟩ | ⟨e, hn, k1, k2⟩ | ⟨e, hn, k1, k2, k3⟩
      · refine key 2 (by omega) (by omega) hn e ?_
        intro b hbm
        obtain ⟨i, hi, rfl⟩ := List.getElem_of_mem hbm
        rw [List.length_take] at hi
        rw [List.getElem_take]
        obtain rfl | rfl : i = 0 ∨ i = 1 := by omega
        · exact hc0
        · exact hb 1 (by omega) k1
      · refine key 3 (by omega) (by omega) hn e ?_
        intro b hbm
        obtain ⟨i, hi, rfl⟩ := List.getElem_of_mem hbm
        rw [List.length_take] at hi
        rw [List.getElem_take]
        obtain rfl | rfl | rfl : i = 0 ∨ i = 1 ∨ i = 2 := by omega
        · exact hc0
        · exact hb 1 (by omega) k1
        · exact hb 2 (by omega) k2
      · refine key 4 (by omega) (by omega) hn e ?_
        intro b hbm
        obtain ⟨i, hi, rfl⟩ := List.getElem_of_mem hbm
        rw [List.length_take] at hi
        rw [List.getElem_take]
        obtain rfl | rfl | rfl | rfl : i = 0 ∨ i = 1 ∨ i = 2 ∨ i = 3 := by omega
        · exact hc0
        · exact hb 1 (by omega) k1
        · exact hb 2 (by omega) k2
        · exact hb 3 (by omega) k3
theorem XC.of : ∀ n (l : List UInt8), l.length ≤ n → charsG n l = true → XC l
  | 0, l, h, _ => by
    have : l = [] := List.length_eq_zero_iff.1 (by omega)
    subst this; exact .nil
  | n + 1, l, h, hc => by
    unfold charsG at hc
    by_cases h0 : l = []
    · subst h0; exact .nil
    · rw [if_neg h0, Bool.and_eq_true] at hc
      obtain ⟨u, r, e, hu, hd⟩ := unit_of l h0 hc.1
      have hdr : l.drop (Lib.decodeL l).2 = r := by rw [← hd, e, List.drop_left]
      rw [hdr] at hc
      have hl : 1 ≤ u.length := by rcases hu with ⟨c, rfl, -⟩ | ⟨h, -⟩ <;> first | omega | simp
      have hr : r.length ≤ n := by rw [e, List.length_append] at h; omega
      rw [e]
      exact .step u r hu (XC.of n r hr hc.2)
theorem chars_XC (s : List UInt8) : charsP s = true ↔ XC s := by
  rw [chars_G]
  exact ⟨XC.of _ s (Nat.le_refl _), fun h => h.chars _⟩
theorem esc1_hi (c : UInt8) (h : 128 ≤ c.toNat) : esc1 c = [c] := by
  have hn : ∀ k : UInt8, k.toNat < 128 → c ≠ k := fun k hk e => by subst e; omega
  simp [esc1, hn 38 (by decide), hn 60 (by decide), hn 62 (by decide), hn 39 (by decide), hn 34 (by decide)]
theorem escL_hi : ∀ (u : List UInt8), (∀ b ∈ u, 128 ≤ b.toNat) → escL u = u
  | [], _ => rfl
  | c :: u, h => by
    unfold escL
    rw [List.flatMap_cons, esc1_hi c (h c (by simp))]
    have := escL_hi u fun b hb => h b (by simp [hb])
    unfold escL at this
    rw [this]; rfl
theorem escL_app (a b : List UInt8) : escL (a ++ b) = escL a ++ escL b := by unfold escL; rw [List.flatMap_append]
theorem esc1_XC (c : UInt8) (h : XC [c]) : XC (esc1 c) := by
  unfold esc1
  repeat (split; · (apply XC.ascii; decide))
  exact h
theorem XC.esc {s : List UInt8} (h : XC s) : XC (escL s) := by
  induction h with
  | nil => exact .nil
  | step u r hu _ ih =>
    rw [escL_app]
    refine XC.app ?_ ih
    have hX : XC u := by have := XC.step u [] hu .nil; simpa using this
    rcases hu with ⟨c, rfl, h1, h2⟩ | ⟨h1, h2, -⟩
    · have e : escL [c] = esc1 c := by simp [escL]
      rw [e]
      exact esc1_XC c hX
    · rw [escL_hi u h2]; exact hX
theorem esc1_no (c : UInt8) : ∀ b ∈ esc1 c, b ≠ 60 ∧ b ≠ 62 ∧ b ≠ 39 ∧ b ≠ 34 := by
  by_cases h1 : c = 38
  · subst h1; decide
  by_cases h2 : c = 60
  · subst h2; decide
  by_cases h3 : c = 62
  · subst h3; decide
  by_cases h4 : c = 39
  · subst h4; decide
  by_cases h5 : c = 34
  · subst h5; decide
  intro b hb
  simp only [esc1, h1, h2, h3, h4, h5, if_false, List.mem_singleton] at hb
  subst hb
  exact ⟨h2, h3, h4, h5⟩
/-- no byte of a text with entities is one of these -/
theorem escL_no (s : List UInt8) : ∀ b ∈ escL s, b ≠ 60 ∧ b ≠ 62 ∧ b ≠ 39 ∧ b ≠ 34 := by
  intro b hb
  unfold escL at hb
  obtain ⟨c, -, hc⟩ := List.mem_flatMap.1 hb
  exact esc1_no c b hc
end Go.Proofs.YtjpdadibeocpfaaDoor
/-
  A text of tokens, piece by piece, and what a parser that reads it byte by byte is to have at each byte. No program, no condition.
-/
namespace Go.Proofs.YtjpdadibeocpfaaDoor
set_option linter.unusedVariables false
set_option linter.unusedSimpArgs false
inductive Pc where
  | txt (t : List UInt8)
  | beg (n : List UInt8) (al : Ats)
  | emp (n : List UInt8) (al : Ats)
  | fin (n : List UInt8)
def Pc.isTxt : Pc → Bool
  | .txt _ => true
  | _ => false
/-- a piece's text -/
def Pc.text : Pc → List UInt8
  | .txt t => escL t
  | .beg n al => [60] ++ n ++ atsL al ++ [62]
  | .emp n al => [60] ++ n ++ atsL al ++ [47] ++ [62]
  | .fin n => [60, 47] ++ n ++ [62]
/-- a tag's text but its last byte -/
def Pc.body : Pc → List UInt8
  | .txt t => escL t
  | .beg n al => [60] ++ n ++ atsL al
  | .emp n al => [60] ++ n ++ atsL al ++ [47]
  | .fin n => [60, 47] ++ n
theorem Pc.text_body (p : Pc) (h : p.isTxt = false) : p.text = p.body ++ [62] := by
  cases p <;> first | rfl | cases h
def Pc.toks : Pc → List Tk
  | .txt t => [⟨3, [], [], t⟩]
  | .beg n al => [⟨1, n, al, []⟩]
  | .emp n al => [⟨1, n, al, []⟩, ⟨2, n, [], []⟩]
  | .fin n => [⟨2, n, [], []⟩]
def piecesOf : List Tk → List Pc
  | [] => []
  | tk :: r =>
    if tk.k = 3 then .txt tk.t :: piecesOf r
    else if tk.k = 2 then .fin tk.n :: piecesOf r
    else match r with
      | e :: r' => if e.k = 2 then .emp tk.n tk.as :: piecesOf r' else .beg tk.n tk.as :: piecesOf (e :: r')
      | [] => [.beg tk.n tk.as]
/-- pieces that can come where these are open (pt: a text came before; rt: an element was open) -/
def PcOk : List (List UInt8) → Bool → Bool → List Pc → Prop
  | op, _, _, [] => op = []
  | op, pt, rt, .txt t :: r => op ≠ [] ∧ pt = false ∧ t ≠ [] ∧ fitsP t = true ∧ op.length ≤ 8 ∧ PcOk op true rt r
  | op, _, rt, .beg n al :: r => nameP n = true ∧ attrsP [] al = true ∧ op.length < 8 ∧ (op ≠ [] ∨ rt = false) ∧ PcOk (op ++ [n]) false true r
  | op, _, rt, .emp n al :: r => nameP n = true ∧ attrsP [] al = true ∧ op.length < 8 ∧ (op ≠ [] ∨ rt = false) ∧ PcOk op false true r
  | op, _, rt, .fin n :: r => nameP n = true ∧ (∃ op', op = op' ++ [n] ∧ op'.length < 8 ∧ PcOk op' false rt r)
theorem print_pieces : ∀ l : List Tk, printR l = (piecesOf l).flatMap Pc.text
  | [] => rfl
  | [tk] => by
    unfold printR piecesOf
    by_cases h3 : tk.k = 3
    · simp [h3, Pc.text, printR, piecesOf]
    · by_cases h2 : tk.k = 2
      · simp [h2, Pc.text, printR, piecesOf]
      · simp [h3, h2, Pc.text]
  | tk :: e :: r => by
    have ih1 := print_pieces (e :: r)
    have ih2 := print_pieces r
    rw [printR.eq_def, piecesOf.eq_def]
    by_cases h3 : tk.k = 3
    · simp [h3, Pc.text, ih1]
    · by_cases h2 : tk.k = 2
      · simp [h2, Pc.text, ih1]
      · by_cases e2 : e.k = 2
        · simp [h3, h2, e2, Pc.text, ih2]
        · simp [h3, h2, e2, Pc.text, ih1]
/-- how a right row of tokens goes on -/
def RunsOk (prev : Int) (op : List (List UInt8)) (rt : Bool) : List Tk → Prop
  | [] => op = []
  | tk :: r => (tk.k = 1 → op ≠ [] ∨ rt = false) ∧ ∃ op', stepT prev op tk = some op' ∧ RunsOk tk.k op' (rt || decide (tk.k = 1)) r
theorem runs_of (l : List Tk) (h : opsTo l l.length = some []) (hw : ∀ j, j < l.length - 1 → opsTo l (j + 1) ≠ some []) : ∀ m i, i + m = l.length → ∀ op rt, (i = 0 → rt = false) → opsTo l i = some op → RunsOk (prevK l i) op rt (l.drop i)
  | 0, i, hi, op, rt, hr, ho => by
    have : i = l.length := by omega
    subst this
    rw [List.drop_length]
    rw [h] at ho
    exact (Option.some.inj ho).symm
  | m + 1, i, hi, op, rt, hr, ho => by
    have hlt : i < l.length := by omega
    rw [List.drop_eq_getElem_cons hlt]
    have h1 := opsTo_some (l := l) (m := i + 1) (n := l.length) (by omega) (by rw [h]; rfl)
    obtain ⟨op', hop⟩ := Option.isSome_iff_exists.1 h1
    have hst := hop
    rw [opsTo, ho, List.getElem?_eq_getElem hlt] at hst
    refine ⟨fun _ => ?_, op', hst, ?_⟩
    · rcases Nat.eq_zero_or_pos i with h0 | h0
      · exact .inr (hr h0)
      · refine .inl fun e => hw (i - 1) (by omega) ?_
        rw [show i - 1 + 1 = i by omega, ho, e]
    · have ih := runs_of l h hw m (i + 1) (by omega) op' (rt || decide ((l[i]'hlt).k = 1)) (by omega) hop
      have e : prevK l (i + 1) = (l[i]'hlt).k := by
        unfold prevK
        rw [if_neg (by omega), Nat.add_sub_cancel, List.getElem?_eq_getElem hlt]; rfl
      rw [e] at ih; exact ih
theorem step_1 {prev : Int} {op op' : List (List UInt8)} {tk : Tk} (h : stepT prev op tk = some op') (hk : tk.k = 1) : rightT tk = true ∧ op.length < 8 ∧ op' = op ++ [tk.n] := by
  unfold stepT at h
  cases hr : rightT tk with
  | false => rw [if_pos hr] at h; cases h
  | true =>
    rw [if_neg (by rw [hr]; decide)] at h
    split at h
    · rename_i h1; injection h with h; exact ⟨rfl, h1.2, h.symm⟩
    · rename_i h1
      rw [hk] at h
      simp at h
theorem step_2 {prev : Int} {op op' : List (List UInt8)} {tk : Tk} (h : stepT prev op tk = some op') (hk : tk.k = 2) : rightT tk = true ∧ op = op' ++ [tk.n] := by
  unfold stepT at h
  cases hr : rightT tk with
  | false => rw [if_pos hr] at h; cases h
  | true =>
    rw [if_neg (by rw [hr]; decide), if_neg (by rw [hk]; intro h; exact absurd h.1 (by decide))] at h
    split at h
    · rename_i h1
      injection h with h
      refine ⟨rfl, ?_⟩
      obtain ⟨_, h2, h3⟩ := h1
      have hne : op ≠ [] := by intro e; rw [e] at h2; exact absurd h2 (by decide)
      rw [← h, ← h3, ← List.dropLast_eq_take]
      have hg : op.getD (op.length - 1) [] = op.getLast hne := by
        rw [List.getLast_eq_getElem, List.getD_eq_getElem?_getD, List.getElem?_eq_getElem (by omega)]; rfl
      rw [hg, List.dropLast_concat_getLast]
    · rename_i h1
      rw [if_neg (by rw [hk]; intro h; exact absurd h.1 (by decide))] at h
      cases h
theorem step_3 {prev : Int} {op op' : List (List UInt8)} {tk : Tk} (h : stepT prev op tk = some op') (hk : tk.k = 3) : rightT tk = true ∧ op' = op ∧ op ≠ [] ∧ prev ≠ 3 := by
  unfold stepT at h
  cases hr : rightT tk with
  | false => rw [if_pos hr] at h; cases h
  | true =>
    rw [if_neg (by rw [hr]; decide), if_neg (by rw [hk]; intro h; exact absurd h.1 (by decide)), if_neg (by rw [hk]; intro h; exact absurd h.1 (by decide))] at h
    split at h
    · rename_i h1
      injection h with h
      exact ⟨rfl, h.symm, fun e => by rw [e] at h1; exact absurd h1.2.1 (by decide), h1.2.2⟩
    · cases h
theorem step_k {prev : Int} {op op' : List (List UInt8)} {tk : Tk} (h : stepT prev op tk = some op') : rightT tk = true := by
  unfold stepT at h
  cases hr : rightT tk with
  | false => rw [if_pos hr] at h; cases h
  | true => rfl
theorem right_3 {tk : Tk} (h : rightT tk = true) (hk : tk.k = 3) : tk = ⟨3, [], [], tk.t⟩ ∧ tk.t ≠ [] ∧ fitsP tk.t = true := by
  obtain ⟨k, n, a, t⟩ := tk
  simp only at hk
  subst hk
  simp [rightT] at h
  obtain ⟨⟨⟨h1, h2⟩, h3⟩, h4⟩ := h
  subst h1 h2
  exact ⟨rfl, h3, h4⟩
theorem right_2 {tk : Tk} (h : rightT tk = true) (hk : tk.k = 2) : tk = ⟨2, tk.n, [], []⟩ ∧ nameP tk.n = true := by
  obtain ⟨k, n, a, t⟩ := tk
  simp only at hk
  subst hk
  simp [rightT] at h
  obtain ⟨⟨h1, h2⟩, h3⟩ := h
  subst h2 h3
  exact ⟨rfl, h1⟩
theorem right_1 {tk : Tk} (h : rightT tk = true) (hk : tk.k = 1) : tk = ⟨1, tk.n, tk.as, []⟩ ∧ nameP tk.n = true ∧ attrsP [] tk.as = true := by
  obtain ⟨k, n, a, t⟩ := tk
  simp only at hk
  subst hk
  simp [rightT] at h
  obtain ⟨⟨h1, h2⟩, h3⟩ := h
  subst h3
  exact ⟨rfl, h2, h1⟩
theorem pieces_ok : ∀ (l : List Tk) (prev : Int) (op : List (List UInt8)) (rt : Bool), op.length ≤ 8 → RunsOk prev op rt l → PcOk op (decide (prev = 3)) rt (piecesOf l) ∧ l = (piecesOf l).flatMap Pc.toks
  | [], prev, op, rt, _, h => ⟨h, rfl⟩
  | tk :: r, prev, op, rt, h8, h => by
    obtain ⟨hrt, op', hst, hr⟩ := h
    have hR := step_k hst
    rcases right_kind hR with hk | hk | hk
    · obtain ⟨_, h8', rfl⟩ := step_1 hst hk
      obtain ⟨e1, e2, e3⟩ := right_1 hR hk
      rw [hk] at hr
      simp only [decide_true, Bool.or_true] at hr
      cases r with
      | nil => exact absurd hr (by simp [RunsOk])
      | cons e r =>
        rw [piecesOf.eq_def]
        simp only [hk]
        by_cases hek : e.k = 2
        · obtain ⟨_, op2, hst2, hr2⟩ := hr
          obtain ⟨f1, f2⟩ := step_2 hst2 hek
          obtain ⟨g1, g2⟩ := right_2 f1 hek
          obtain ⟨hop, hn⟩ := List.append_inj' f2 rfl
          injection hn with hn _
          subst hop
          rw [hek] at hr2
          have ih := pieces_ok r 2 op _ h8 hr2
          rw [if_neg (by decide), if_neg (by decide), if_pos hek]
          refine ⟨⟨e2, e3, h8', hrt hk, ?_⟩, ?_⟩
          · simpa using ih.1
          · rw [List.flatMap_cons, ← ih.2, e1, g1, hn]; rfl
        · have ih := pieces_ok (e :: r) 1 (op ++ [tk.n]) _ (by simp; omega) hr
          rw [if_neg (by decide), if_neg (by decide), if_neg hek]
          refine ⟨⟨e2, e3, h8', hrt hk, ?_⟩, ?_⟩
          · simpa using ih.1
          · rw [List.flatMap_cons, ← ih.2, e1]; rfl
    · obtain ⟨_, hop⟩ := step_2 hst hk
      obtain ⟨e1, e2⟩ := right_2 hR hk
      rw [hk] at hr
      have hl : op'.length < 8 := by rw [hop] at h8; simp at h8; omega
      have ih := pieces_ok r 2 op' _ (by omega) hr
      rw [piecesOf.eq_def]
      simp only [hk]
      rw [if_neg (by decide), if_pos trivial]
      refine ⟨⟨e2, op', hop, hl, by simpa using ih.1⟩, ?_⟩
      rw [List.flatMap_cons, ← ih.2]; exact congrArg (· :: r) e1
    · obtain ⟨_, hop, hne, hp⟩ := step_3 hst hk
      obtain ⟨e1, e2, e3⟩ := right_3 hR hk
      subst hop
      rw [hk] at hr
      have ih := pieces_ok r 3 op' _ h8 hr
      rw [piecesOf.eq_def]
      simp only [hk]
      rw [if_pos trivial]
      refine ⟨⟨hne, by simpa using hp, e2, e3, h8, by simpa using ih.1⟩, ?_⟩
      rw [List.flatMap_cons, ← ih.2]; exact congrArg (· :: r) e1
theorem whole_pieces {l : List Tk} (h : wholeL l = true) : PcOk [] false false (piecesOf l) ∧ l = (piecesOf l).flatMap Pc.toks ∧ printR l = (piecesOf l).flatMap Pc.text := by
  obtain ⟨h1, h2, h3⟩ := whole_right h
  have hr := runs_of l (right_ops h1) h3 l.length 0 (by omega) [] false (fun _ => rfl) rfl
  have := pieces_ok l 0 [] false (by simp) hr
  exact ⟨this.1, this.2, print_pieces l⟩
/-! ### quotes -/
def qStep (q c : UInt8) : UInt8 := if q ≠ 0 ∧ c = q then 0 else if q = 0 ∧ (c = 39 ∨ c = 34) then c else q
def qSt (l : List UInt8) (q : UInt8) : UInt8 := l.foldl qStep q
theorem qSt_app (a b : List UInt8) (q : UInt8) : qSt (a ++ b) q = qSt b (qSt a q) := by unfold qSt; rw [List.foldl_append]
theorem qSt_plain : ∀ (l : List UInt8) (q : UInt8), (∀ b ∈ l, b ≠ 39 ∧ b ≠ 34) → (q = 0 ∨ q = 39) → qSt l q = q
  | [], q, _, _ => rfl
  | c :: l, q, h, hq => by
    obtain ⟨h1, h2⟩ := h c (by simp)
    have e : qStep q c = q := by
      unfold qStep
      rcases hq with rfl | rfl
      · simp [h1, h2]
      · simp [h1]
    show qSt l (qStep q c) = q
    rw [e]
    exact qSt_plain l q (fun b hb => h b (by simp [hb])) hq
theorem name_bytes {n : List UInt8} (h : nameP n = true) : n ≠ [] ∧ n.length ≤ 32 ∧ ∀ i (hi : i < n.length), nameAt i (n[i]'hi).toNat = true := by
  simp only [nameP, Bool.and_eq_true, decide_eq_true_eq, Bool.not_eq_true', beq_eq_false_iff_ne] at h
  exact ⟨h.1.2, h.2, fun i hi => h.1.1 i hi hi⟩
/-- may a byte be in a name? -/
def nameC (c : UInt8) : Bool := nameAt 1 c.toNat
theorem nameAt_C {i : Nat} {c : UInt8} (h : nameAt i c.toNat = true) : nameC c = true := by
  unfold nameC
  unfold nameAt at h ⊢
  rw [decide_eq_true_eq] at h ⊢
  omega
theorem name_all {n : List UInt8} (h : nameP n = true) : ∀ b ∈ n, nameC b = true := fun b hb => by
  obtain ⟨i, hi, rfl⟩ := List.getElem_of_mem hb
  exact nameAt_C ((name_bytes h).2.2 i hi)
theorem nameC_ne {b : UInt8} (h : nameC b = true) : b ≠ 60 ∧ b ≠ 62 ∧ b ≠ 39 ∧ b ≠ 34 ∧ b ≠ 32 ∧ b ≠ 61 ∧ b ≠ 47 ∧ b ≠ 33 ∧ b ≠ 63 ∧ b ≠ 38 ∧ 32 ≤ b.toNat ∧ b.toNat < 128 := by
  have hn : ∀ k : UInt8, nameAt 1 k.toNat = false → b ≠ k := fun k hk e => by subst e; unfold nameC at h; rw [hk] at h; cases h
  refine ⟨hn _ (by decide), hn _ (by decide), hn _ (by decide), hn _ (by decide), hn _ (by decide), hn _ (by decide), hn _ (by decide), hn _ (by decide), hn _ (by decide), hn _ (by decide), ?_, ?_⟩ <;>
  · unfold nameC nameAt at h; rw [decide_eq_true_eq] at h; omega
theorem attrs_each : ∀ (seen : List (List UInt8)) (al : Ats), attrsP seen al = true → ∀ p ∈ al, nameP p.1 = true ∧ fitsP p.2 = true
  | _, [], _, p, hp => by cases hp
  | seen, q :: r, h, p, hp => by
    rw [attrsP] at h
    simp only [Bool.and_eq_true, decide_eq_true_eq] at h
    rcases List.mem_cons.1 hp with rfl | hp
    · exact ⟨h.1.1.1.2, h.1.1.2⟩
    · exact attrs_each _ r h.2 p hp
theorem fits_chars {s : List UInt8} (h : fitsP s = true) : charsP s = true := by
  simp only [fitsP, Bool.and_eq_true] at h
  exact h.2
/-- a tag's text but its last byte holds no end of a tag, and its quotes are shut -/
theorem atP_facts {p : List UInt8 × List UInt8} (h1 : nameP p.1 = true) (h2 : fitsP p.2 = true) : (∀ b ∈ atP p, b ≠ 62 ∧ b ≠ 60) ∧ qSt (atP p) 0 = 0 ∧ XC (atP p) := by
  refine ⟨fun b hb => ?_, ?_, ?_⟩
  · simp only [atP, List.mem_append, List.mem_cons, List.not_mem_nil, or_false] at hb
    rcases hb with (((rfl | hb) | rfl | rfl) | hb) | rfl
    · decide
    · have := nameC_ne (name_all h1 b hb); exact ⟨this.2.1, this.1⟩
    · decide
    · decide
    · have := escL_no p.2 b hb; exact ⟨this.2.1, this.1⟩
    · decide
  · unfold atP
    rw [qSt_app, qSt_app, qSt_app, qSt_app]
    rw [show qSt [32] 0 = 0 by decide, qSt_plain p.1 0 (fun b hb => by have := nameC_ne (name_all h1 b hb); exact ⟨this.2.2.1, this.2.2.2.1⟩) (.inl rfl),
      show qSt [61, 39] 0 = 39 by decide, qSt_plain (escL p.2) 39 (fun b hb => by have := escL_no p.2 b hb; exact ⟨this.2.2.1, this.2.2.2⟩) (.inr rfl)]
    decide
  · unfold atP
    refine XC.app (XC.app (XC.app (XC.app (XC.ascii (by decide)) (XC.ascii fun b hb => ?_)) (XC.ascii (by decide))) ((chars_XC p.2).1 (fits_chars h2)).esc) (XC.ascii (by decide))
    have := nameC_ne (name_all h1 b hb); exact this.2.2.2.2.2.2.2.2.2.2
theorem atsL_facts : ∀ {al : Ats}, (∀ p ∈ al, nameP p.1 = true ∧ fitsP p.2 = true) → (∀ b ∈ atsL al, b ≠ 62 ∧ b ≠ 60) ∧ qSt (atsL al) 0 = 0 ∧ XC (atsL al)
  | [], _ => ⟨fun b hb => (by cases hb), rfl, .nil⟩
  | p :: r, h => by
    obtain ⟨a1, a2, a3⟩ := atP_facts (h p (by simp)).1 (h p (by simp)).2
    obtain ⟨b1, b2, b3⟩ := atsL_facts (al := r) fun q hq => h q (by simp [hq])
    have e : atsL (p :: r) = atP p ++ atsL r := by unfold atsL; rw [List.flatMap_cons]
    rw [e]
    refine ⟨fun b hb => ?_, ?_, a3.app b3⟩
    · rcases List.mem_append.1 hb with hb | hb
      · exact a1 b hb
      · exact b1 b hb
    · rw [qSt_app, a2, b2]
theorem name_facts {n : List UInt8} (h : nameP n = true) : (∀ b ∈ n, b ≠ 62 ∧ b ≠ 60) ∧ qSt n 0 = 0 ∧ XC n :=
  ⟨fun b hb => by have := nameC_ne (name_all h b hb); exact ⟨this.2.1, this.1⟩, qSt_plain n 0 (fun b hb => by have := nameC_ne (name_all h b hb); exact ⟨this.2.2.1, this.2.2.2.1⟩) (.inl rfl),
    XC.ascii fun b hb => by have := nameC_ne (name_all h b hb); exact this.2.2.2.2.2.2.2.2.2.2⟩
/-- what a tag's name and attributes must be -/
def Pc.good : Pc → Prop
  | .txt t => t ≠ [] ∧ fitsP t = true
  | .beg n al => nameP n = true ∧ attrsP [] al = true
  | .emp n al => nameP n = true ∧ attrsP [] al = true
  | .fin n => nameP n = true
theorem PcOk.good {op : List (List UInt8)} {pt rt : Bool} {p : Pc} {r : List Pc} (h : PcOk op pt rt (p :: r)) : p.good := by
  cases p with
  | txt t => exact ⟨h.2.2.1, h.2.2.2.1⟩
  | beg n al => exact ⟨h.1, h.2.1⟩
  | emp n al => exact ⟨h.1, h.2.1⟩
  | fin n => exact h.1
theorem body_facts {p : Pc} (h : p.good) (ht : p.isTxt = false) : (∃ b, p.body = 60 :: b ∧ b ≠ [] ∧ ∀ x ∈ b, x ≠ 62 ∧ x ≠ 60) ∧ qSt p.body 0 = 0 ∧ charsP p.text = true := by
  have app : ∀ {a b : List UInt8}, (∀ x ∈ a, x ≠ 62 ∧ x ≠ 60) → (∀ x ∈ b, x ≠ 62 ∧ x ≠ 60) → ∀ x ∈ a ++ b, x ≠ 62 ∧ x ≠ 60 := fun h1 h2 x hx => by
    rcases List.mem_append.1 hx with hx | hx
    · exact h1 x hx
    · exact h2 x hx
  rw [chars_XC]
  cases p with
  | txt t => cases ht
  | beg n al =>
    obtain ⟨h1, h2⟩ := h
    obtain ⟨a1, a2, a3⟩ := name_facts h1
    obtain ⟨b1, b2, b3⟩ := atsL_facts (attrs_each [] al h2)
    refine ⟨⟨n ++ atsL al, by simp [Pc.body], by simp [(name_bytes h1).1], app a1 b1⟩, ?_, ?_⟩
    · unfold Pc.body; rw [qSt_app, qSt_app, show qSt [60] 0 = 0 by decide, a2, b2]
    · unfold Pc.text; exact ((((XC.ascii (by decide)).app a3).app b3).app (XC.ascii (by decide)))
  | emp n al =>
    obtain ⟨h1, h2⟩ := h
    obtain ⟨a1, a2, a3⟩ := name_facts h1
    obtain ⟨b1, b2, b3⟩ := atsL_facts (attrs_each [] al h2)
    refine ⟨⟨n ++ atsL al ++ [47], by simp [Pc.body], by simp, app (app a1 b1) (by decide)⟩, ?_, ?_⟩
    · unfold Pc.body; rw [qSt_app, qSt_app, qSt_app, show qSt [60] 0 = 0 by decide, a2, b2]; decide
    · unfold Pc.text; exact (((((XC.ascii (by decide)).app a3).app b3).app (XC.ascii (by decide))).app (XC.ascii (by decide)))
  | fin n =>
    obtain ⟨a1, a2, a3⟩ := name_facts h
    refine ⟨⟨[47] ++ n, by simp [Pc.body], by simp, app (by decide) a1⟩, ?_, ?_⟩
    · unfold Pc.body; rw [qSt_app, show qSt [60, 47] 0 = 0 by decide, a2]
    · unfold Pc.text; exact ((XC.ascii (by decide)).app a3).app (XC.ascii (by decide))
end Go.Proofs.YtjpdadibeocpfaaDoor
/-
  A text's head of bytes of a kind; blanks and name bytes; how long a tag's parts are. Plain lists, no condition.
-/
namespace Go.Proofs.YtjpdadibeocpfaaDoor
set_option linter.unusedVariables false
set_option linter.unusedSimpArgs false
def blC (c : UInt8) : Bool := decide (c = 32 ∨ c = 9 ∨ c = 10 ∨ c = 13)
def headN (f : UInt8 → Bool) (s : List UInt8) : Nat := (s.takeWhile f).length
def headTo (f : UInt8 → Bool) (s : List UInt8) (k : Nat) : Prop := ∀ i (h : i < s.length), i < k → f (s[i]'h) = true
theorem head_end {f : UInt8 → Bool} : ∀ {s : List UInt8} {k : Nat}, k ≤ s.length → headTo f s k → (∀ h : k < s.length, f (s[k]'h) = false) → headN f s = k
  | [], k, hk, _, _ => by
    have : k = 0 := by simpa using hk
    subst this; rfl
  | c :: s, 0, _, _, h => by
    have := h (by simp)
    simp only [List.getElem_cons_zero] at this
    simp [headN, this]
  | c :: s, k + 1, hk, ht, h => by
    have h0 := ht 0 (by simp) (by omega)
    simp only [List.getElem_cons_zero] at h0
    have ih := head_end (f := f) (s := s) (k := k) (by simpa using hk) (fun i hi hik => by have := ht (i + 1) (by simpa using hi) (by omega); simpa using this) (fun hk' => by have := h (by simpa using hk'); simpa using this)
    unfold headN at ih ⊢
    rw [List.takeWhile_cons, if_pos h0, List.length_cons, ih]
theorem headTo_snoc {f : UInt8 → Bool} {s : List UInt8} {k : Nat} (h : headTo f s k) (hk : k < s.length) (hc : f (s[k]'hk) = true) : headTo f s (k + 1) := by
  intro i hi hik
  rcases Nat.lt_or_ge i k with h1 | h1
  · exact h i hi h1
  · have : i = k := by omega
    subst this
    exact hc
theorem head_app {f : UInt8 → Bool} {a : List UInt8} {c : UInt8} {r : List UInt8} (h : ∀ b ∈ a, f b = true) (hc : f c = false) : headN f (a ++ c :: r) = a.length := by
  unfold headN
  induction a with
  | nil => simp [hc]
  | cons x a ih =>
    rw [List.cons_append, List.takeWhile_cons, if_pos (h x (by simp)), List.length_cons, ih fun b hb => h b (by simp [hb])]
    rfl
theorem head_0 {f : UInt8 → Bool} {c : UInt8} {r : List UInt8} (hc : f c = false) : headN f (c :: r) = 0 := head_app (a := []) (by simp) hc
theorem nameC_bl {c : UInt8} (h : nameC c = true) : blC c = false := by
  have := nameC_ne h
  unfold blC
  rw [decide_eq_false_iff_not]
  rintro (e | e | e | e) <;> subst e <;> revert h <;> decide
theorem esc_len_le (v : List UInt8) (h : fitsP v = true) : (escL v).length ≤ 3072 := by
  have := fitsP_len h
  have := escL_len v
  omega
theorem atsL_len : ∀ {al : Ats}, (∀ p ∈ al, nameP p.1 = true ∧ fitsP p.2 = true) → (atsL al).length ≤ 4000 * al.length
  | [], _ => by simp [atsL]
  | p :: r, h => by
    have e : atsL (p :: r) = atP p ++ atsL r := by unfold atsL; rw [List.flatMap_cons]
    have ih := atsL_len (al := r) fun q hq => h q (by simp [hq])
    have h1 := esc_len_le p.2 (h p (by simp)).2
    have h2 := nameP_len (h p (by simp)).1
    rw [e, List.length_append, List.length_cons]
    simp only [atP, List.length_append, List.length_cons, List.length_nil]
    omega
end Go.Proofs.YtjpdadibeocpfaaDoor
/-
  A start tag's inside: its attributes' names apart, what it ends on. Plain lists, no condition.
-/
namespace Go.Proofs.YtjpdadibeocpfaaDoor
set_option linter.unusedVariables false
set_option linter.unusedSimpArgs false
theorem xattrs_apart : ∀ (seen : List (List UInt8)) (al : Ats), attrsP seen al = true → ∀ i (hi : i < al.length), (∀ x ∈ seen, x ≠ (al[i]'hi).1) ∧ ∀ j (hj : j < al.length), j < i → (al[j]'hj).1 ≠ (al[i]'hi).1
  | _, [], _, i, hi => absurd hi (by simp)
  | seen, q :: r, h, i, hi => by
    rw [attrsP] at h
    simp only [Bool.and_eq_true, decide_eq_true_eq, Bool.not_eq_true'] at h
    obtain ⟨⟨⟨⟨h1, -⟩, -⟩, -⟩, h5⟩ := h
    cases i with
    | zero =>
      refine ⟨fun x hx e => ?_, fun j _ hj => absurd hj (by omega)⟩
      have : seen.contains q.1 = true := by rw [List.contains_iff_mem]; rw [← show x = q.1 from e]; exact hx
      rw [this] at h1; cases h1
    | succ i =>
      have ih := xattrs_apart (seen ++ [q.1]) r h5 i (by simpa using hi)
      refine ⟨fun x hx => ih.1 x (by simp [hx]), fun j hj hji => ?_⟩
      cases j with
      | zero => exact ih.1 q.1 (by simp)
      | succ j => exact ih.2 j (by simpa using hj) (by omega)
theorem xattrs_len {al : Ats} (h : attrsP [] al = true) : al.length ≤ 8 := by
  have := (attrsP_each [] al h (by simp)).1
  simpa using this
/-- what stands behind a tag's name is no part of it -/
theorem xats_head (al : Ats) (c : UInt8) (r : List UInt8) (hc : nameC c = false) : ∃ c' r', atsL al ++ c :: r = c' :: r' ∧ nameC c' = false := by
  cases al with
  | nil => exact ⟨c, r, rfl, hc⟩
  | cons p q => exact ⟨32, (p.1 ++ [61, 39] ++ escL p.2 ++ [39]) ++ (atsL q ++ c :: r), by simp [atsL, atP], by decide⟩
theorem xats_last : ∀ (al : Ats), atsL al = [] ∨ ∃ r, atsL al = r ++ [39]
  | [] => .inl rfl
  | p :: q => by
    refine .inr ?_
    have e : atsL (p :: q) = atP p ++ atsL q := by unfold atsL; rw [List.flatMap_cons]
    rcases xats_last q with h | ⟨r, h⟩
    · exact ⟨[32] ++ p.1 ++ [61, 39] ++ escL p.2, by rw [e, h, List.append_nil]; rfl⟩
    · exact ⟨atP p ++ r, by rw [e, h, List.append_assoc]⟩
/-- a printed start tag's inside does not end on a slash -/
theorem no_slash {n : List UInt8} {al : Ats} (hn : nameP n = true) : Lib.hasSuffix (n ++ atsL al) [47] = false := by
  have hl : ∀ (r : List UInt8) (c : UInt8), c ≠ 47 → Lib.hasSuffix (r ++ [c]) [47] = false := fun r c hc => by
    have h : ¬ [47] <:+ r ++ [c] := fun ⟨t, h⟩ => by
      have := congrArg List.getLast? h
      simp at this
      exact hc this.symm
    unfold Lib.hasSuffix
    rw [Bool.eq_false_iff]
    intro e
    exact h (List.isSuffixOf_iff_suffix.1 e)
  rcases xats_last al with h | ⟨r, h⟩
  · rw [h, List.append_nil]
    obtain ⟨hne, -, -⟩ := name_bytes hn
    have e := List.dropLast_concat_getLast hne
    rw [← e]
    exact hl _ _ (nameC_ne (name_all hn _ (List.getLast_mem hne))).2.2.2.2.2.2.1
  · rw [h, ← List.append_assoc]
    exact hl _ _ (by decide)
end Go.Proofs.YtjpdadibeocpfaaDoor
/-
  What a parser has at each byte of a text of whole tokens, and that each byte takes it on. No program, no condition.
-/
namespace Go.Proofs.YtjpdadibeocpfaaDoor
set_option linter.unusedVariables false
set_option linter.unusedSimpArgs false
/-- what waits, the open quote, the open names, whether an element was open -/
structure Ps where
  w : List UInt8
  q : UInt8
  op : List (List UInt8)
  rt : Bool
/-- what a tag does to what is open -/
def TagR (op : List (List UInt8)) (rt : Bool) (op' : List (List UInt8)) (rt' : Bool) : Pc → Prop
  | .txt _ => False
  | .beg n _ => op.length < 8 ∧ (op ≠ [] ∨ rt = false) ∧ op' = op ++ [n] ∧ rt' = true
  | .emp _ _ => op.length < 8 ∧ (op ≠ [] ∨ rt = false) ∧ op' = op ∧ rt' = true
  | .fin n => op = op' ++ [n] ∧ op'.length < 8 ∧ rt' = rt
inductive StepR (S : Ps) : UInt8 → Option (Ps × List Tk) → Prop
  | txt (c : UInt8) : S.q = 0 → c ≠ 60 → S.w.head? ≠ some 60 → S.w.length + 1 ≤ 512 → StepR S c (some (⟨S.w ++ [c], S.q, S.op, S.rt⟩, []))
  | txtL (c : UInt8) : S.q = 0 → c ≠ 60 → S.w.head? ≠ some 60 → 512 < S.w.length + 1 → StepR S c none
  | opn : S.w = [] → S.q = 0 → StepR S 60 (some (⟨[60], S.q, S.op, S.rt⟩, []))
  | aft (t : List UInt8) : S.w = escL t → t ≠ [] → fitsP t = true → S.q = 0 → S.op ≠ [] → StepR S 60 (some (⟨[60], S.q, S.op, S.rt⟩, [⟨3, [], [], t⟩]))
  | tag (c : UInt8) (b : List UInt8) : S.w = 60 :: b → c ≠ 62 → c ≠ 60 → (S.q = 0 ∨ S.q = 39) → S.w.length + 1 ≤ 2048 → StepR S c (some (⟨S.w ++ [c], qStep S.q c, S.op, S.rt⟩, []))
  | tagL (c : UInt8) (b : List UInt8) : S.w = 60 :: b → c ≠ 60 → 2048 < S.w.length + 1 → StepR S c none
  | fin (p : Pc) (op' : List (List UInt8)) (rt' : Bool) : p.isTxt = false → S.w = p.body → p.good → S.q = 0 → TagR S.op S.rt op' rt' p → S.w.length + 1 ≤ 2048 → StepR S 62 (some (⟨[], 0, op', rt'⟩, p.toks))
def FeedI (l : List Tk) (s : List UInt8) (i : Nat) (S : Ps) (out : List Tk) : Prop :=
  (∃ p r k pt, s.drop i = p.text.drop k ++ r.flatMap Pc.text ∧ k ≤ p.text.length ∧ k ≤ i ∧ (p.isTxt = false → k < p.text.length) ∧ l = out ++ p.toks ++ r.flatMap Pc.toks ∧ PcOk S.op pt S.rt (p :: r) ∧ S.w = p.text.take k ∧ S.q = (if p.isTxt then 0 else qSt S.w 0)) ∨
    (i = s.length ∧ l = out ∧ S.w = [] ∧ S.q = 0 ∧ S.op = [])
theorem escL_ne {t : List UInt8} (h : t ≠ []) : escL t ≠ [] := by
  cases t with
  | nil => exact absurd rfl h
  | cons c t =>
    unfold escL
    rw [List.flatMap_cons]
    have : esc1 c ≠ [] := by
      unfold esc1
      repeat (split; · simp)
      simp
    simp [this]
/-- the quotes in a tag are single ones -/
theorem qSt_two : ∀ (l : List UInt8) (q : UInt8), (∀ b ∈ l, b ≠ 34) → (q = 0 ∨ q = 39) → (qSt l q = 0 ∨ qSt l q = 39)
  | [], q, _, h => h
  | c :: l, q, h, hq => by
    refine qSt_two l (qStep q c) (fun b hb => h b (by simp [hb])) ?_
    have h1 := h c (by simp)
    unfold qStep
    rcases hq with rfl | rfl
    · by_cases hc : c = 39
      · subst hc; exact .inr (by decide)
      · simp [h1, hc]
    · by_cases hc : c = 39
      · subst hc; exact .inl (by decide)
      · simp [hc]
theorem atsL_34 : ∀ {al : Ats}, (∀ p ∈ al, nameP p.1 = true ∧ fitsP p.2 = true) → ∀ b ∈ atsL al, b ≠ 34
  | [], _, b, hb => by cases hb
  | p :: r, h, b, hb => by
    have e : atsL (p :: r) = atP p ++ atsL r := by unfold atsL; rw [List.flatMap_cons]
    rw [e] at hb
    rcases List.mem_append.1 hb with hb | hb
    · simp only [atP, List.mem_append, List.mem_cons, List.not_mem_nil, or_false] at hb
      rcases hb with (((rfl | hb) | rfl | rfl) | hb) | rfl
      · decide
      · exact (nameC_ne (name_all (h p (by simp)).1 b hb)).2.2.2.1
      · decide
      · decide
      · exact (escL_no p.2 b hb).2.2.2
      · decide
    · exact atsL_34 (fun q hq => h q (by simp [hq])) b hb
theorem body_34 {p : Pc} (h : p.good) (ht : p.isTxt = false) : ∀ b ∈ p.body, b ≠ 34 := by
  have nm : ∀ {n : List UInt8}, nameP n = true → ∀ b ∈ n, b ≠ 34 := fun h b hb => (nameC_ne (name_all h b hb)).2.2.2.1
  intro b hb
  cases p with
  | txt t => cases ht
  | beg n al =>
    simp only [Pc.body, List.mem_append, List.mem_cons, List.not_mem_nil, or_false] at hb
    rcases hb with (rfl | hb) | hb
    · decide
    · exact nm h.1 b hb
    · exact atsL_34 (attrs_each [] al h.2) b hb
  | emp n al =>
    simp only [Pc.body, List.mem_append, List.mem_cons, List.not_mem_nil, or_false] at hb
    rcases hb with ((rfl | hb) | hb) | rfl
    · decide
    · exact nm h.1 b hb
    · exact atsL_34 (attrs_each [] al h.2) b hb
    · decide
  | fin n =>
    simp only [Pc.body, List.mem_append, List.mem_cons, List.not_mem_nil, or_false] at hb
    rcases hb with (rfl | rfl) | hb
    · decide
    · decide
    · exact nm h b hb
theorem tag_head {p : Pc} (h : p.good) (ht : p.isTxt = false) : p.text.take 1 = [60] ∧ 1 < p.text.length := by
  obtain ⟨⟨b, e, hb, -⟩, -, -⟩ := body_facts h ht
  rw [p.text_body ht, e]
  exact ⟨rfl, by cases b with | nil => exact absurd rfl hb | cons x b => simp⟩
theorem drop_head {s : List UInt8} {i : Nat} (hi : i < s.length) {c : UInt8} {r : List UInt8} (h : s.drop i = c :: r) : s[i]'hi = c ∧ s.drop (i + 1) = r := by
  rw [List.drop_eq_getElem_cons hi] at h
  injection h with h1 h2
  exact ⟨h1, h2⟩
theorem tag_next {op : List (List UInt8)} {pt rt : Bool} {p : Pc} {r : List Pc} (h : PcOk op pt rt (p :: r)) (ht : p.isTxt = false) : ∃ op' rt', TagR op rt op' rt' p ∧ PcOk op' false rt' r := by
  cases p with
  | txt t => cases ht
  | beg n al => exact ⟨_, _, ⟨h.2.2.1, h.2.2.2.1, rfl, rfl⟩, h.2.2.2.2⟩
  | emp n al => exact ⟨_, _, ⟨h.2.2.1, h.2.2.2.1, rfl, rfl⟩, h.2.2.2.2⟩
  | fin n =>
    obtain ⟨_, op', h1, h2, h3⟩ := h
    exact ⟨op', rt, ⟨h1, h2, rfl⟩, h3⟩
theorem feed_step {l : List Tk} {s : List UInt8} {i : Nat} {S : Ps} {out : List Tk} (h : FeedI l s i S out) (hi : i < s.length) :
    (∃ S' tk, StepR S (s[i]'hi) (some (S', tk)) ∧ FeedI l s (i + 1) S' (out ++ tk)) ∨ (StepR S (s[i]'hi) none ∧ 512 < s.length) := by
  rcases h with ⟨p, r, k, pt, hd, hk, hki, hkt, hl, hok, hw, hq⟩ | ⟨h1, -⟩
  · have hg := hok.good
    cases hT : p.isTxt with
    | true =>
      rw [hT, if_pos rfl] at hq
      cases p with
      | beg n al => cases hT
      | emp n al => cases hT
      | fin n => cases hT
      | txt t =>
        simp only [Pc.text] at hd hk hw
        rcases Nat.lt_or_ge k (escL t).length with hlt | hge
        · rw [List.drop_eq_getElem_cons hlt, List.cons_append] at hd
          obtain ⟨hc, hd'⟩ := drop_head hi hd
          rw [hc]
          have hb := escL_no t _ (List.getElem_mem hlt)
          have hhd : S.w.head? ≠ some 60 := by
            rw [hw]
            intro e
            have : (60 : UInt8) ∈ escL t := List.mem_of_mem_take (List.mem_of_mem_head? (by rw [e]; rfl) : (60 : UInt8) ∈ (escL t).take k)
            exact (escL_no t 60 this).1 rfl
          by_cases h512 : S.w.length + 1 ≤ 512
          · refine .inl ⟨_, _, .txt _ hq hb.1 hhd h512, .inl ⟨.txt t, r, k + 1, pt, hd', hlt, by omega, fun e => (by cases e), by simpa using hl, hok, ?_, hq⟩⟩
            show S.w ++ [_] = (escL t).take (k + 1)
            rw [hw, List.take_succ_eq_append_getElem hlt]
          · refine .inr ⟨.txtL _ hq hb.1 hhd (by omega), ?_⟩
            have : S.w.length ≤ k := by rw [hw, List.length_take]; omega
            omega
        · rw [List.drop_of_length_le hge, List.nil_append] at hd
          have hw' : S.w = escL t := by rw [hw, List.take_of_length_le hge]
          cases r with
          | nil =>
            have := congrArg List.length hd
            simp at this; omega
          | cons p' r' =>
            have hok' := hok.2.2.2.2.2
            have hT' : p'.isTxt = false := by
              cases p' with
              | txt t' => exact absurd hok'.2.1 (by decide)
              | _ => rfl
            obtain ⟨e1, e2⟩ := tag_head hok'.good hT'
            have e3 : p'.text = 60 :: p'.text.drop 1 := by
              have := List.take_append_drop 1 p'.text
              rw [e1] at this; exact this.symm
            rw [List.flatMap_cons, e3, List.cons_append] at hd
            obtain ⟨hc, hd'⟩ := drop_head hi hd
            rw [hc]
            refine .inl ⟨_, _, .aft t hw' hok.2.2.1 hok.2.2.2.1 hq hok.1, .inl ⟨p', r', 1, true, hd', by omega, by omega, fun _ => e2, ?_, hok', e1.symm, ?_⟩⟩
            · rw [hl, List.flatMap_cons]; simp [Pc.toks]
            · show S.q = _
              rw [hT', hq, if_neg (by decide)]
              show (0 : UInt8) = qSt [60] 0
              decide
    | false =>
      rw [hT, if_neg (by decide)] at hq
      have hlt := hkt hT
      obtain ⟨⟨b, hbe, hbn, hb⟩, hqb, -⟩ := body_facts hg hT
      obtain ⟨e1, e2⟩ := tag_head hg hT
      have htb := p.text_body hT
      have hblen : p.body.length = b.length + 1 := by rw [hbe]; rfl
      have htl : p.text.length = b.length + 2 := by rw [htb, List.length_append, hblen]; rfl
      rcases Nat.eq_zero_or_pos k with rfl | hk0
      · have e3 : p.text = 60 :: p.text.drop 1 := by
          have := List.take_append_drop 1 p.text
          rw [e1] at this; exact this.symm
        rw [List.drop_zero, e3, List.cons_append] at hd
        obtain ⟨hc, hd'⟩ := drop_head hi hd
        rw [hc]
        rw [List.take_zero] at hw
        rw [hw] at hq
        refine .inl ⟨_, _, .opn hw hq, .inl ⟨p, r, 1, pt, hd', by omega, by omega, fun _ => e2, by simpa using hl, hok, e1.symm, ?_⟩⟩
        show S.q = _
        rw [hT, if_neg (by decide), hq]
        show qSt [] 0 = qSt [60] 0
        decide
      · have hwl : S.w.length = k := by rw [hw, List.length_take]; omega
        have hw60 : ∃ x, S.w = 60 :: x := by
          rw [hw, htb, hbe]
          obtain ⟨k', rfl⟩ : ∃ k', k = k' + 1 := ⟨k - 1, by omega⟩
          exact ⟨_, rfl⟩
        obtain ⟨x, hx⟩ := hw60
        rw [List.drop_eq_getElem_cons hlt, List.cons_append] at hd
        obtain ⟨hc, hd'⟩ := drop_head hi hd
        rw [hc]
        rcases Nat.lt_or_ge k p.body.length with hkb | hkb
        · have ec : p.text[k]'hlt = p.body[k]'hkb := by
            simp only [htb]; rw [List.getElem_append_left hkb]
          have hcb : p.body[k]'hkb ≠ 62 ∧ p.body[k]'hkb ≠ 60 := by
            have : p.body[k]'hkb = b[k - 1]'(by omega) := by
              obtain ⟨k', rfl⟩ : ∃ k', k = k' + 1 := ⟨k - 1, by omega⟩
              simp only [hbe]; rfl
            rw [this]; exact hb _ (List.getElem_mem _)
          have hwb : S.w = p.body.take k := by rw [hw, htb, List.take_append_of_le_length (by omega)]
          have hq2 : S.q = 0 ∨ S.q = 39 := by
            rw [hq, hwb]
            exact qSt_two _ 0 (fun y hy => body_34 hg hT y (List.mem_of_mem_take hy)) (.inl rfl)
          rw [ec]
          by_cases h2048 : S.w.length + 1 ≤ 2048
          · refine .inl ⟨_, _, .tag _ x hx hcb.1 hcb.2 hq2 h2048, .inl ⟨p, r, k + 1, pt, hd', by omega, by omega, fun _ => by omega, by simpa using hl, hok, ?_, ?_⟩⟩
            · show S.w ++ [_] = p.text.take (k + 1)
              rw [hw, List.take_succ_eq_append_getElem hlt, ec]
            · show qStep S.q _ = if p.isTxt then 0 else qSt (S.w ++ [_]) 0
              rw [hT, if_neg (by decide), qSt_app, ← hq]; rfl
          · exact .inr ⟨.tagL _ x hx hcb.2 (by omega), by omega⟩
        · have hke : k = p.body.length := by omega
          have ec : p.text[k]'hlt = 62 := by
            simp only [htb]; rw [List.getElem_append_right (by omega)]; simp [hke]
          have hwb : S.w = p.body := by rw [hw, htb, List.take_append_of_le_length (by omega), hke, List.take_length]
          have hq0 : S.q = 0 := by rw [hq, hwb, hqb]
          rw [ec]
          by_cases h2048 : S.w.length + 1 ≤ 2048
          · obtain ⟨op', rt', hR, hok'⟩ := tag_next hok hT
            refine .inl ⟨_, _, .fin p op' rt' hT hwb hg hq0 hR h2048, ?_⟩
            have hz : p.text.drop (k + 1) = [] := List.drop_of_length_le (by omega)
            rw [hz, List.nil_append] at hd'
            cases r with
            | nil =>
              refine .inr ⟨?_, by simpa using hl, rfl, rfl, hok'⟩
              have := congrArg List.length hd'
              simp at this; omega
            | cons p' r' =>
              refine .inl ⟨p', r', 0, false, by rw [hd', List.flatMap_cons]; rfl, by omega, by omega, fun hT' => ?_, ?_, hok', rfl, ?_⟩
              · have := (tag_head hok'.good hT').2; omega
              · rw [hl, List.flatMap_cons]; simp
              · show (0 : UInt8) = if p'.isTxt then 0 else qSt [] 0
                cases p'.isTxt <;> rfl
          · exact .inr ⟨.tagL _ x hx (by decide) (by omega), by omega⟩
  · omega
theorem feed_start {l : List Tk} (h : wholeL l = true) : FeedI l (printR l) 0 ⟨[], 0, [], false⟩ [] := by
  obtain ⟨h1, h2, h3⟩ := whole_pieces h
  cases hp : piecesOf l with
  | nil => 
    rw [hp] at h2
    have := (whole_right h).2.1
    rw [h2] at this
    exact absurd this (by decide)
  | cons p r =>
    rw [hp] at h1 h2 h3
    refine .inl ⟨p, r, 0, false, by rw [h3, List.flatMap_cons]; rfl, by omega, by omega, fun hT => ?_, by rw [List.flatMap_cons] at h2; simpa using h2, h1, rfl, ?_⟩
    · have := (tag_head h1.good hT).2; omega
    · cases p.isTxt <;> rfl
theorem feed_end {l : List Tk} {s : List UInt8} {S : Ps} {out : List Tk} (h : FeedI l s s.length S out) : l = out ∧ S.w = [] ∧ S.op = [] := by
  rcases h with ⟨p, r, k, pt, hd, hk, hki, hkt, hl, hok, hw, hq⟩ | ⟨-, h1, h2, -, h3⟩
  · exfalso
    rw [List.drop_length] at hd
    obtain ⟨e1, e2⟩ := List.append_eq_nil_iff.1 hd.symm
    have hkl : p.text.length ≤ k := by simpa using e1
    cases hT : p.isTxt with
    | false => have := hkt hT; omega
    | true =>
      cases p with
      | txt t =>
        cases r with
        | nil => exact hok.1 hok.2.2.2.2.2
        | cons p' r' =>
          have hok' := hok.2.2.2.2.2
          have hT' : p'.isTxt = false := by
            cases p' with
            | txt t' => exact absurd hok'.2.1 (by decide)
            | _ => rfl
          have h1 := (tag_head hok'.good hT').2
          rw [List.flatMap_cons] at e2
          rw [(List.append_eq_nil_iff.1 e2).1] at h1
          exact absurd h1 (by decide)
      | _ => cases hT
  · exact ⟨h1, h2, h3⟩
end Go.Proofs.YtjpdadibeocpfaaDoor
