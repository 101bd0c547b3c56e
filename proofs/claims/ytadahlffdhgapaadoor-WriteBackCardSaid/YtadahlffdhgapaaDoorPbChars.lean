/-
  Characters that may be in XML, piece by piece: a text put together of such is such; so is one with entities. No program, no condition.
-/
import Derived.Test.YtadahlffdhgapaaDoorChEq
import Derived.Test.YtadahlffdhgapaaDoorTxEsc
import Derived.Lib.TrimAscii
namespace Go.Proofs.YtadahlffdhgapaaDoor
set_option linter.unusedVariables false
set_option linter.unusedSimpArgs false
open Go.RowKit
def okD (l : List UInt8) : Bool := !decide ((Lib.decodeL l).1 = 65533 ∧ (Lib.decodeL l).2 = 1) && okV (Lib.decodeL l).1
def charsG : Nat → List UInt8 → Bool
  | 0, _ => true
  | n + 1, l => if l = [] then true else okD l && charsG n (l.drop (Lib.decodeL l).2)
theorem charsG_eq (s : List UInt8) : ∀ n pos, (Lib.validGoD n (s.drop pos) && charsV s n pos) = charsG n (s.drop pos)
  | 0, _ => rfl
  | n + 1, pos => by
    unfold charsV Lib.validGoD charsG
    by_cases h : pos < s.length
    · have h0 : s.drop pos ≠ [] := by simp; omega
      rw [if_pos h, if_neg h0, if_neg h0, dec_at, List.drop_drop, ← charsG_eq s n (pos + (Lib.decodeL (s.drop pos)).2)]
      unfold okD
      by_cases hc : (Lib.decodeL (s.drop pos)).1 = 65533 ∧ (Lib.decodeL (s.drop pos)).2 = 1
      · rw [if_pos hc]; simp [hc]
      · rw [if_neg hc]
        simp only [hc, decide_false, Bool.not_false, Bool.true_and]
        cases okV (Lib.decodeL (s.drop pos)).1 <;> simp [Bool.and_left_comm]
    · have h0 : s.drop pos = [] := by simp; omega
      rw [if_neg h, if_pos h0, if_pos h0]; rfl
theorem chars_G (s : List UInt8) : charsP s = charsG s.length s := by
  rw [chars_valid]
  have := charsG_eq s s.length 0
  simpa [Lib.validD] using this
/-- one character's bytes -/
def Unit1 (u : List UInt8) : Prop := (∃ c : UInt8, u = [c] ∧ c.toNat < 128 ∧ (32 ≤ c.toNat ∨ c.toNat = 9 ∨ c.toNat = 10 ∨ c.toNat = 13)) ∨
  (2 ≤ u.length ∧ (∀ b ∈ u, 128 ≤ b.toNat) ∧ ∃ c, okV c = true ∧ ∀ r, Lib.decodeL (u ++ r) = (c, u.length))
inductive XC : List UInt8 → Prop
  | nil : XC []
  | step (u r : List UInt8) : Unit1 u → XC r → XC (u ++ r)
theorem XC.app {a b : List UInt8} (ha : XC a) (hb : XC b) : XC (a ++ b) := by
  induction ha with
  | nil => exact hb
  | step u r hu _ ih => rw [List.append_assoc]; exact .step u _ hu ih
theorem XC.one {c : UInt8} (h : c.toNat < 128) (h2 : 32 ≤ c.toNat) : XC [c] := by
  have := XC.step [c] [] (.inl ⟨c, rfl, h, .inl h2⟩) .nil
  simpa using this
theorem XC.ascii : ∀ {l : List UInt8}, (∀ b ∈ l, 32 ≤ b.toNat ∧ b.toNat < 128) → XC l
  | [], _ => .nil
  | c :: l, h => by
    have h1 := h c (by simp)
    exact .step [c] l (.inl ⟨c, rfl, h1.2, .inl h1.1⟩) (XC.ascii fun b hb => h b (by simp [hb]))
theorem XC.chars {l : List UInt8} (h : XC l) : ∀ n, charsG n l = true := by
  induction h with
  | nil => intro n; cases n <;> simp [charsG]
  | step u r hu _ ih =>
    intro n
    cases n with
    | zero => rfl
    | succ n =>
      unfold charsG
      split
      · rfl
      · rcases hu with ⟨c, rfl, h1, h2⟩ | ⟨h1, h2, c, h3, h4⟩
        · have e : Lib.decodeL ([c] ++ r) = (c.toNat, 1) := Lib.decodeL_ascii c r h1
          unfold okD
          rw [e]
          have : okV c.toNat = true := by unfold okV; rw [decide_eq_true_eq]; omega
          simp [this, ih n]
          omega
        · unfold okD
          rw [h4 r]
          have hl : ¬ u.length = 1 := by omega
          simp [h3, ih n, hl]
set_option maxRecDepth 100000 in
set_option maxHeartbeats 4000000 in
theorem decN_unit (n b0 b1 b2 b3 : Nat) (h0 : 128 ≤ b0) (hb : ¬ ((Lib.decodeN n b0 b1 b2 b3).1 = 65533 ∧ (Lib.decodeN n b0 b1 b2 b3).2 = 1)) :
    ((Lib.decodeN n b0 b1 b2 b3).2 = 2 ∧ 2 ≤ n ∧ b1 / 64 = 2) ∨ ((Lib.decodeN n b0 b1 b2 b3).2 = 3 ∧ 3 ≤ n ∧ b1 / 64 = 2 ∧ b2 / 64 = 2) ∨ ((Lib.decodeN n b0 b1 b2 b3).2 = 4 ∧ 4 ≤ n ∧ b1 / 64 = 2 ∧ b2 / 64 = 2 ∧ b3 / 64 = 2) := by
  revert hb
  unfold Lib.decodeN
  repeat' split
  all_goals simp only
  all_goals intro hb
  all_goals first | omega | (simp at hb; done) | (clear hb; simp; omega)
theorem getD_lt (l : List UInt8) (i : Nat) (h : i < l.length) : l.getD i 0 = l[i] := by simp [List.getD, h]
theorem unit_of (l : List UInt8) (hne : l ≠ []) (hok : okD l = true) : ∃ u r, l = u ++ r ∧ Unit1 u ∧ u.length = (Lib.decodeL l).2 := by
  unfold okD at hok
  simp only [Bool.and_eq_true, Bool.not_eq_true', decide_eq_false_iff_not] at hok
  obtain ⟨h1, h2⟩ := hok
  cases l with
  | nil => exact absurd rfl hne
  | cons c t =>
    by_cases hc : c.toNat < 128
    · rw [Lib.decodeL_ascii c t hc] at h1 h2 ⊢
      refine ⟨[c], t, rfl, .inl ⟨c, rfl, hc, ?_⟩, rfl⟩
      unfold okV at h2
      rw [decide_eq_true_eq] at h2
      exact h2.2.2
    · have hN := Lib.decodeL_N (c :: t)
      rw [hN] at h1
      have hu := decN_unit _ _ _ _ _ (by simpa using (by omega : 128 ≤ c.toNat)) h1
      rw [← hN] at hu
      have key : ∀ d, 2 ≤ d → d ≤ 4 → d ≤ (c :: t).length → (Lib.decodeL (c :: t)).2 = d → (∀ b ∈ (c :: t).take d, 128 ≤ b.toNat) → ∃ u r, c :: t = u ++ r ∧ Unit1 u ∧ u.length = (Lib.decodeL (c :: t)).2 := fun d hd2 hd4 hdn hdd hall => by
        have hlen : ((c :: t).take d).length = d := by rw [List.length_take]; omega
        have hg : ∀ r i, i < d → ((c :: t).take d ++ r).getD i 0 = (c :: t).getD i 0 := fun r i hi => by
          rw [getD_lt _ _ (by rw [List.length_append, hlen]; omega), getD_lt _ _ (by omega), List.getElem_append_left (by rw [hlen]; exact hi), List.getElem_take]
        have hd : ∀ r, Lib.decodeL ((c :: t).take d ++ r) = Lib.decodeL (c :: t) := fun r => by
          have hA : Lib.decodeL ((c :: t).take d) = Lib.decodeL (c :: t) := by
            have h3 := hN
            have hgg := fun i hi => hg [] i hi
            simp only [List.append_nil] at hgg
            rw [Lib.decodeL_N ((c :: t).take d), hlen]
            rw [hN] at hdd ⊢
            have hx : ∀ i, (c :: t).getD i 0 = ((c :: t).take d).getD i 0 ∨ d ≤ i := fun i => by
              rcases Nat.lt_or_ge i d with h | h
              · exact .inl (hgg i h).symm
              · exact .inr h
            rw [hgg 0 (by omega), hgg 1 (by omega)]
            clear hx
            have e2 : 2 < d → (((c :: t).take d).getD 2 0).toNat = ((c :: t).getD 2 0).toNat := fun h => by rw [hgg 2 h]
            have e3 : 3 < d → (((c :: t).take d).getD 3 0).toNat = ((c :: t).getD 3 0).toNat := fun h => by rw [hgg 3 h]
            generalize (((c :: t).take d).getD 2 0).toNat = x2 at *
            generalize (((c :: t).take d).getD 3 0).toNat = x3 at *
            have b1 := ((c :: t).getD 1 0).toNat_lt
            generalize ((c :: t).getD 0 0).toNat = b0 at *
            generalize ((c :: t).getD 1 0).toNat = b1 at *
            generalize ((c :: t).getD 2 0).toNat = b2 at *
            generalize ((c :: t).getD 3 0).toNat = b3 at *
            generalize (c :: t).length = n at *
            clear hN h3 hg hgg hu h1 h2 hlen hall
            unfold Lib.decodeN at hdd ⊢
            repeat' split at hdd
            all_goals first | (exfalso; simp only at hdd; omega) | skip
            all_goals (simp only at hdd; subst hdd)
            · simp_all
            · have := e2 (by omega); subst this; simp_all
            · have := e2 (by omega); subst this; have := e3 (by omega); subst this; simp_all
          have hB := Lib.decodeL_N ((c :: t).take d)
          have hm := Lib.decodeN_more ((c :: t).take d).length ((c :: t).take d ++ r).length _ _ _ _ (((c :: t).take d ++ r).getD 1 0).toNat (((c :: t).take d ++ r).getD 2 0).toNat (((c :: t).take d ++ r).getD 3 0).toNat (by rw [hlen]; exact hd2) (by rw [List.length_append]; omega) (by rw [← hB, hA, hlen]; exact hdd)
            (fun h => by rw [hg r 1 (by omega)]; have := hg [] 1 (by omega); simp only [List.append_nil] at this; rw [this]) (fun h => by rw [hlen] at h; rw [hg r 2 h]; have := hg [] 2 h; simp only [List.append_nil] at this; rw [this]) (fun h => by rw [hlen] at h; rw [hg r 3 h]; have := hg [] 3 h; simp only [List.append_nil] at this; rw [this])
          have e0 : ((c :: t).take d ++ r).getD 0 0 = ((c :: t).take d).getD 0 0 := by
            have := hg [] 0 (by omega); simp only [List.append_nil] at this
            rw [hg r 0 (by omega), this]
          rw [Lib.decodeL_N ((c :: t).take d ++ r), e0, hm, ← hB, hA]
        refine ⟨(c :: t).take d, (c :: t).drop d, (List.take_append_drop _ _).symm, .inr ⟨by rw [hlen]; exact hd2, hall, (Lib.decodeL (c :: t)).1, h2, fun r => ?_⟩, by rw [hlen, hdd]⟩
        rw [hd r, hlen, ← hdd]
      have hb : ∀ i (h : i < (c :: t).length), ((c :: t).getD i 0).toNat / 64 = 2 → 128 ≤ ((c :: t)[i]).toNat := fun i h e => by
        rw [getD_lt _ _ h] at e; omega
      have hc0 : 128 ≤ c.toNat := by omega
      rcases hu with ⟨e, hn, k1⟩ | ⟨e, hn, k1, k2⟩ | ⟨e, hn, k1, k2, k3⟩
      · refine key 2 (by omega) (by omega) hn e ?_
        intro b hbm
        obtain ⟨i, hi, rfl⟩ := List.getElem_of_mem hbm
        rw [List.length_take] at hi
        rw [List.getElem_take]
        obtain rfl | rfl : i = 0 ∨ i = 1 := by omega
        · exact hc0
        · exact hb 1 (by omega) k1
      · refine key 3 (by omega) (by omega) hn e ?_
        intro b hbm
        obtain ⟨i, hi, rfl⟩ := List.getElem_of_mem hbm
        rw [List.length_take] at hi
        rw [List.getElem_take]
        obtain rfl | rfl | rfl : i = 0 ∨ i = 1 ∨ i = 2 := by omega
        · exact hc0
        · exact hb 1 (by omega) k1
        · exact hb 2 (by omega) k2
      · refine key 4 (by omega) (by omega) hn e ?_
        intro b hbm
        obtain ⟨i, hi, rfl⟩ := List.getElem_of_mem hbm
        rw [List.length_take] at hi
        rw [List.getElem_take]
        obtain rfl | rfl | rfl | rfl : i = 0 ∨ i = 1 ∨ i = 2 ∨ i = 3 := by omega
        · exact hc0
        · exact hb 1 (by omega) k1
        · exact hb 2 (by omega) k2
        · exact hb 3 (by omega) k3
theorem XC.of : ∀ n (l : List UInt8), l.length ≤ n → charsG n l = true → XC l
  | 0, l, h, _ => by
    have : l = [] := List.length_eq_zero_iff.1 (by omega)
    subst this; exact .nil
  | n + 1, l, h, hc => by
    unfold charsG at hc
    by_cases h0 : l = []
    · subst h0; exact .nil
    · rw [if_neg h0, Bool.and_eq_true] at hc
      obtain ⟨u, r, e, hu, hd⟩ := unit_of l h0 hc.1
      have hdr : l.drop (Lib.decodeL l).2 = r := by rw [← hd, e, List.drop_left]
      rw [hdr] at hc
      have hl : 1 ≤ u.length := by rcases hu with ⟨c, rfl, -⟩ | ⟨h, -⟩ <;> first | omega | simp
      have hr : r.length ≤ n := by rw [e, List.length_append] at h; omega
      rw [e]
      exact .step u r hu (XC.of n r hr hc.2)
theorem chars_XC (s : List UInt8) : charsP s = true ↔ XC s := by
  rw [chars_G]
  exact ⟨XC.of _ s (Nat.le_refl _), fun h => h.chars _⟩
theorem esc1_hi (c : UInt8) (h : 128 ≤ c.toNat) : esc1 c = [c] := by
  have hn : ∀ k : UInt8, k.toNat < 128 → c ≠ k := fun k hk e => by subst e; omega
  simp [esc1, hn 38 (by decide), hn 60 (by decide), hn 62 (by decide), hn 39 (by decide), hn 34 (by decide)]
theorem escL_hi : ∀ (u : List UInt8), (∀ b ∈ u, 128 ≤ b.toNat) → escL u = u
  | [], _ => rfl
  | c :: u, h => by
    unfold escL
    rw [List.flatMap_cons, esc1_hi c (h c (by simp))]
    have := escL_hi u fun b hb => h b (by simp [hb])
    unfold escL at this
    rw [this]; rfl
theorem escL_app (a b : List UInt8) : escL (a ++ b) = escL a ++ escL b := by unfold escL; rw [List.flatMap_append]
theorem esc1_XC (c : UInt8) (h : XC [c]) : XC (esc1 c) := by
  unfold esc1
  repeat (split; · (apply XC.ascii; decide))
  exact h
theorem XC.esc {s : List UInt8} (h : XC s) : XC (escL s) := by
  induction h with
  | nil => exact .nil
  | step u r hu _ ih =>
    rw [escL_app]
    refine XC.app ?_ ih
    have hX : XC u := by have := XC.step u [] hu .nil; simpa using this
    rcases hu with ⟨c, rfl, h1, h2⟩ | ⟨h1, h2, -⟩
    · have e : escL [c] = esc1 c := by simp [escL]
      rw [e]
      exact esc1_XC c hX
    · rw [escL_hi u h2]; exact hX
theorem esc1_no (c : UInt8) : ∀ b ∈ esc1 c, b ≠ 60 ∧ b ≠ 62 ∧ b ≠ 39 ∧ b ≠ 34 := by
  by_cases h1 : c = 38
  · subst h1; decide
  by_cases h2 : c = 60
  · subst h2; decide
  by_cases h3 : c = 62
  · subst h3; decide
  by_cases h4 : c = 39
  · subst h4; decide
  by_cases h5 : c = 34
  · subst h5; decide
  intro b hb
  simp only [esc1, h1, h2, h3, h4, h5, if_false, List.mem_singleton] at hb
  subst hb
  exact ⟨h2, h3, h4, h5⟩
/-- no byte of a text with entities is one of these -/
theorem escL_no (s : List UInt8) : ∀ b ∈ escL s, b ≠ 60 ∧ b ≠ 62 ∧ b ≠ 39 ∧ b ≠ 34 := by
  intro b hb
  unfold escL at hb
  obtain ⟨c, -, hc⟩ := List.mem_flatMap.1 hb
  exact esc1_no c b hc
end Go.Proofs.YtadahlffdhgapaaDoor
