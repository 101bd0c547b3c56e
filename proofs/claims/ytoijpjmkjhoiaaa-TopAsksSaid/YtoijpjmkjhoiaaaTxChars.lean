/-
  Characters that may be in XML (text.Chars), and texts that fit (write.fits). No condition but the reach.
-/
import Derived.Test.YtoijpjmkjhoiaaaTxPre
import Derived.Laws.RangeAny
namespace Go.Proofs.Ytoijpjmkjhoiaaa
set_option linter.unusedVariables false
set_option linter.unusedSimpArgs false
open Go.RowKit
attribute [local go_sem] extE
/-- may this character be, read at this place? -/
def okC (s : List UInt8) (pos c : Nat) : Bool := !(decide (c = 65533) && !preP (s.drop pos) [239, 191, 189]) && decide (c ≠ 65534 ∧ c ≠ 65535 ∧ (32 ≤ c ∨ c = 9 ∨ c = 10 ∨ c = 13))
def charsF (s : List UInt8) : Nat → Nat → Bool
  | 0, _ => true
  | n + 1, pos => if pos < s.length then okC s pos (Utf8.decode ⟨s.toArray⟩ pos).1 && charsF s n (pos + (Utf8.decode ⟨s.toArray⟩ pos).2) else true
/-- may all its characters be? -/
def charsP (s : List UInt8) : Bool := charsF s s.length 0
theorem width_pos (s : ByteArray) (pos : Nat) (h : pos < s.size) : 1 ≤ (Utf8.decode s pos).2 := by
  by_cases ha : (s[pos]'h).toNat < 128
  · rw [decode_ascii s pos h ha]
    exact Nat.le_refl _
  · exact (decode_high s pos h (by omega)).2
theorem charsF_end (s : List UInt8) (b pos : Nat) (h : ¬ pos < s.length) : charsF s b pos = true := by
  cases b with
  | zero => rfl
  | succ b => simp [charsF, h]
theorem okC_true {s : List UInt8} {pos c : Nat} (h1 : (c : Int) = 65533 → preP (s.drop pos) [239, 191, 189] = true) (h2 : (c : Int) ≠ 65534 ∧ (c : Int) ≠ 65535 ∧ (32 ≤ (c : Int) ∨ (c : Int) = 9 ∨ (c : Int) = 10 ∨ (c : Int) = 13)) : okC s pos c = true := by
  have e2 : decide (c ≠ 65534 ∧ c ≠ 65535 ∧ (32 ≤ c ∨ c = 9 ∨ c = 10 ∨ c = 13)) = true := by rw [decide_eq_true_eq]; omega
  unfold okC
  rw [e2, Bool.and_true]
  by_cases h : c = 65533
  · rw [h1 (by omega)]; simp
  · simp [h]
theorem okC_pre {s : List UInt8} {pos c : Nat} (h : (c : Int) = 65533) (h1 : preP (s.drop pos) [239, 191, 189] = false) : okC s pos c = false := by
  have h' : c = 65533 := by omega
  simp [okC, h', h1]
theorem okC_not {s : List UInt8} {pos c : Nat} (h2 : ¬((c : Int) ≠ 65534 ∧ (c : Int) ≠ 65535 ∧ (32 ≤ (c : Int) ∨ (c : Int) = 9 ∨ (c : Int) = 10 ∨ (c : Int) = 13))) : okC s pos c = false := by
  have e2 : decide (c ≠ 65534 ∧ c ≠ 65535 ∧ (32 ≤ c ∨ c = 9 ∨ c = 10 ∨ c = 13)) = false := by rw [decide_eq_false_iff_not]; omega
  unfold okC
  rw [e2, Bool.and_false]
set_option maxHeartbeats 1000000 in
theorem textChars_any (s : List UInt8) (w : World) (hs : s.length ≤ 140737488351232) :
    Calls Try.prog 56 #[.string ⟨s.toArray⟩] w fun e w' => e = .returned (.bool (charsP s)) ∧ Below w.heap.size w w' := by
  go_enter Try.func56, Try.ntmps56
  go_wp2
  go_loopw [4] (fun _ wr => ∃ (pos b : Nat), wr = w.iter ⟨s.toArray⟩ pos ∧ charsF s b pos = charsP s ∧ s.length ≤ pos + b) (fun _ w' => s.length - w'.iterPos w.heap.size)
  case atStart => exact ⟨0, s.length, rfl, rfl, by omega⟩
  case round =>
    obtain ⟨pos, b, rfl, hc, hb⟩ := hrel
    by_cases hp : pos < s.length
    · have hnx : ∀ ty, (Instr.next (.pointer (some ⟨w.heap.size, 0, none⟩)) true ty).run Try.prog (w.iter ⟨s.toArray⟩ pos) = _ := fun ty => run_next_any w ⟨s.toArray⟩ pos ty hp
      have hwd := width_pos ⟨s.toArray⟩ pos hp
      cases b with
      | zero => omega
      | succ b =>
        rw [charsF, if_pos hp] at hc
        revert hnx hwd hc
        generalize (Utf8.decode ⟨s.toArray⟩ pos).2 = d
        generalize (Utf8.decode ⟨s.toArray⟩ pos).1 = c
        intro hnx hwd hc
        have hl : (s.drop pos).length ≤ 140737488351232 := by rw [List.length_drop]; omega
        cases hpre : preP (s.drop pos) [239, 191, 189]
        all_goals go_wp2_with (go_at_call 78; refine (hasPrefix_any (s.drop pos) [239, 191, 189] _ hl (by simp)).mono ?_; rintro e w1 ⟨rfl, rfl⟩; rw [hpre])
        all_goals first
          | (refine ⟨⟨pos + d, b, rfl, ?_, by omega⟩, by simp; omega⟩
             rw [← hc, okC_true (by first | (intro _; assumption) | (intro h; exfalso; simp at *; omega)) (by simp at *; omega), Bool.true_and])
          | (go_ret
             refine ⟨?_, (Below.refl _ _).alloc (Nat.le_refl _) _⟩
             rw [← hc]
             first
               | (rw [okC_pre (by simp at *; omega) (by assumption)]; rfl)
               | (rw [okC_not (by simp at *; omega)]; rfl))
    · have hnx : ∀ ty, (Instr.next (.pointer (some ⟨w.heap.size, 0, none⟩)) true ty).run Try.prog (w.iter ⟨s.toArray⟩ pos) = _ := fun ty => run_next_end w ⟨s.toArray⟩ pos ty hp
      go_wp2
      go_ret
      rw [charsF_end s b pos hp] at hc
      rw [← hc]
      exact ⟨rfl, (Below.refl _ _).alloc (Nat.le_refl _) _⟩
/-- may it be a text? -/
def fitsP (s : List UInt8) : Bool := decide (s.length ≤ 512) && charsP s
end Go.Proofs.Ytoijpjmkjhoiaaa
