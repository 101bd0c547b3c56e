/-
  The two ways to say which characters may be in a text are one: 'an invalid encoding' and 'U+FFFD that is not written out'. No program, no condition.
-/
import Derived.Test.YtjpdadibeocpfaaDoorTxA
import Derived.Lib.ValidU
import Derived.Lib.TrimUEq
namespace Go.Proofs.YtjpdadibeocpfaaDoor
set_option linter.unusedVariables false
set_option linter.unusedSimpArgs false
open Go.RowKit
theorem pre3 (l : List UInt8) : preP l [239, 191, 189] = (decide (3 ≤ l.length) && decide ((l.getD 0 0).toNat = 239) && decide ((l.getD 1 0).toNat = 191) && decide ((l.getD 2 0).toNat = 189)) := by
  have e : ∀ x y : UInt8, (x == y) = decide (x.toNat = y.toNat) := fun x y => by
    rw [Bool.eq_iff_iff]; simp [UInt8.toNat_inj]
  match l with
  | [] => rfl
  | [a] => rfl
  | [a, b] => rfl
  | a :: b :: c :: r =>
    unfold preP
    simp [e, Bool.and_assoc]
theorem dec_bad (l : List UInt8) : ((Lib.decodeL l).1 = 65533 ∧ (Lib.decodeL l).2 = 1) ↔ ((Lib.decodeL l).1 = 65533 ∧ preP l [239, 191, 189] = false) := by
  rw [pre3, Lib.decodeL_N]
  have h0 := (l.getD 0 0).toNat_lt
  have h1 := (l.getD 1 0).toNat_lt
  have h2 := (l.getD 2 0).toNat_lt
  have h3 := (l.getD 3 0).toNat_lt
  generalize (l.getD 0 0).toNat = b0 at *
  generalize (l.getD 1 0).toNat = b1 at *
  generalize (l.getD 2 0).toNat = b2 at *
  generalize (l.getD 3 0).toNat = b3 at *
  generalize l.length = n at *
  have hr : (decide (3 ≤ n) && decide (b0 = 239) && decide (b1 = 191) && decide (b2 = 189)) = false ↔ ¬ (3 ≤ n ∧ b0 = 239 ∧ b1 = 191 ∧ b2 = 189) := by
    rw [Bool.eq_false_iff]
    simp [and_assoc]
  rw [hr]
  unfold Lib.decodeN
  repeat' split
  all_goals
    simp only
    constructor
    · rintro ⟨e1, e2⟩
      first | (exfalso; omega) | exact ⟨e1, by omega⟩
    · rintro ⟨e1, e2⟩
      first | (exfalso; omega) | exact ⟨e1, by omega⟩
def okV (c : Nat) : Bool := decide (c ≠ 65534 ∧ c ≠ 65535 ∧ (32 ≤ c ∨ c = 9 ∨ c = 10 ∨ c = 13))
def charsV (s : List UInt8) : Nat → Nat → Bool
  | 0, _ => true
  | n + 1, pos => if pos < s.length then okV (Utf8.decode ⟨s.toArray⟩ pos).1 && charsV s n (pos + (Utf8.decode ⟨s.toArray⟩ pos).2) else true
theorem charsV_end (s : List UInt8) (b pos : Nat) (h : ¬ pos < s.length) : charsV s b pos = true := by
  cases b with
  | zero => rfl
  | succ b => simp [charsV, h]
theorem dec_at (s : List UInt8) (pos : Nat) : Utf8.decode ⟨s.toArray⟩ pos = Lib.decodeL (s.drop pos) := by
  have := Lib.decodeL_drop ⟨s.toArray⟩ pos
  simpa using this.symm
theorem chars_split (s : List UInt8) : ∀ n pos, charsF s n pos = (Lib.validGoD n (s.drop pos) && charsV s n pos)
  | 0, _ => rfl
  | n + 1, pos => by
    unfold charsF charsV Lib.validGoD
    by_cases h : pos < s.length
    · have h0 : s.drop pos ≠ [] := by simp; omega
      rw [if_pos h, if_pos h, if_neg h0, dec_at, chars_split s n, List.drop_drop]
      have hb := dec_bad (s.drop pos)
      generalize (Lib.decodeL (s.drop pos)).1 = c at *
      generalize (Lib.decodeL (s.drop pos)).2 = d at *
      by_cases hc : c = 65533 ∧ d = 1
      · rw [if_pos hc]
        have := hb.1 hc
        simp [okC, this]
      · rw [if_neg hc]
        have hn : ¬ (c = 65533 ∧ preP (s.drop pos) [239, 191, 189] = false) := fun h => hc (hb.2 h)
        have e : okC s pos c = okV c := by
          unfold okC okV
          by_cases e1 : c = 65533
          · have : preP (s.drop pos) [239, 191, 189] = true := by
              cases hp : preP (s.drop pos) [239, 191, 189] with
              | true => rfl
              | false => exact absurd ⟨e1, hp⟩ hn
            rw [this]; simp
          · simp [e1]
        rw [e]
        cases okV c <;> simp [Bool.and_comm, Bool.and_left_comm]
    · rw [if_neg h, if_neg h]
      have h0 : s.drop pos = [] := by simp; omega
      rw [if_pos h0]; rfl
theorem chars_valid (s : List UInt8) : charsP s = (Lib.validD s && charsV s s.length 0) := by
  unfold charsP Lib.validD
  rw [chars_split]
  rfl
end Go.Proofs.YtjpdadibeocpfaaDoor
