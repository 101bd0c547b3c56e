/-
  Names (package text). Each string shorter than the reach.
-/
import Derived.Test.YtjpdadibeocpfaaDoorProg
import Derived.Test.YtjpdadibeocpfaaDoorBase
import Derived.WalkKit
import Derived.LoopTactic
import Derived.Lib.Hide
import Derived.Outline
import Derived.Laws.RangeAny
namespace Go.Proofs.YtjpdadibeocpfaaDoor
set_option linter.unusedVariables false
set_option linter.unusedSimpArgs false
open Go.RowKit
attribute [local go_sem] mk_get
/-- may a name have this byte at this place? -/
def nameAt (i c : Nat) : Bool := decide (97 ≤ c ∧ c ≤ 122 ∨ 65 ≤ c ∧ c ≤ 90 ∨ c = 95 ∨ 0 < i ∧ (48 ≤ c ∧ c ≤ 57 ∨ c = 45 ∨ c = 46 ∨ c = 58))
def nameTo (s : List UInt8) (k : Nat) : Prop := ∀ i (h : i < s.length), i < k → nameAt i (s[i]'h).toNat = true
instance (s : List UInt8) (k : Nat) : Decidable (nameTo s k) := inferInstanceAs (Decidable (∀ i (h : i < s.length), i < k → nameAt i (s[i]'h).toNat = true))
/-- may it be a name? -/
def nameP (s : List UInt8) : Bool := decide (nameTo s s.length) && !(s == []) && decide (s.length ≤ 32)
theorem nameTo_snoc {s : List UInt8} {k : Nat} (h : nameTo s k) (hk : k < s.length) (hc : nameAt k (s[k]'hk).toNat = true) : nameTo s (k + 1) := by
  intro i hi hik
  rcases Nat.lt_or_ge i k with h1 | h1
  · exact h i hi h1
  · have : i = k := by omega
    subst this
    exact hc
theorem nameP_no {s : List UInt8} {k : Nat} (hk : k < s.length) (hc : nameAt k (s[k]'hk).toNat = false) : nameP s = false := by
  have : ¬ nameTo s s.length := fun h => by rw [h k hk hk] at hc; cases hc
  simp [nameP, this]
set_option maxHeartbeats 1000000 in
theorem textName_any (s : List UInt8) (w : World) (hs : s.length ≤ 140737488351232) :
    Calls Tryd.prog 56 #[.string ⟨s.toArray⟩] w fun e w' => e = .returned (.bool (nameP s)) ∧ w = w' := by
  go_enter Tryd.func56, Tryd.ntmps56
  go_wp2
  go_loop [7] (fun i => ∃ k : Nat, k ≤ s.length ∧ i = .int .i64 k ∧ Hid (nameTo s k)) (fun i => s.length - (intOf i).toNat)
  case atStart => exact ⟨0, Nat.zero_le _, rfl, fun i _ h => absurd h (Nat.not_lt_zero _)⟩
  case round =>
    obtain ⟨k, hk, rfl, HA⟩ := hrel
    by_cases hlt : k < s.length
    · go_wp2
      all_goals first
        | (go_round
           case rel => exact ⟨k + 1, by omega, by go_num, nameTo_snoc HA.out hlt (by simp only [nameAt, decide_eq_true_eq]; simp at *; omega)⟩
           case measure => simp [intOf]; omega)
        | (go_ret; exact ⟨ret_bool (nameP_no hlt (by simp only [nameAt, decide_eq_false_iff_not]; simp at *; omega)).symm, rfl⟩)
    · have hE : nameTo s s.length := fun i hi _ => HA.out i hi (by omega)
      have e32 : decide ((s.length : Int) ≤ 32) = decide (s.length ≤ 32) := by rw [decide_eq_decide]; omega
      go_wp2
      all_goals (go_ret; refine ⟨ret_bool ?_, rfl⟩; simp [nameP, hE, e32] at *)
end Go.Proofs.YtjpdadibeocpfaaDoor
/-
  strings.HasPrefix. No condition but the reach.
-/
namespace Go.Proofs.YtjpdadibeocpfaaDoor
set_option linter.unusedVariables false
set_option linter.unusedSimpArgs false
open Go.RowKit
attribute [local go_sem] ext0
/-- does a text begin so? -/
def preP (s p : List UInt8) : Bool := decide (p.length ≤ s.length) && (s.take p.length == p)
theorem hasPrefixI_any (s p : List UInt8) (w : World) (hs : s.length ≤ 140737488351232) (hp : p.length ≤ 140737488351232) :
    Calls Tryd.prog 60 #[.string ⟨s.toArray⟩, .string ⟨p.toArray⟩] w fun e w' => e = .returned (.bool (preP s p)) ∧ w = w' := by
  by_cases h : p.length ≤ s.length
  · have e1 : preP s p = (s.take p.length == p) := by simp [preP, h]
    rw [e1]
    have hb : decide ((p.length : Int) ≤ (s.length : Int)) = true := by simp; omega
    go_enter Tryd.func60, Tryd.ntmps60
    go_wp2
    all_goals (go_ret; refine ⟨ret_bool ?_, rfl⟩; simp_all)
  · have e1 : preP s p = false := by simp [preP, h]
    rw [e1]
    have hb : decide ((p.length : Int) ≤ (s.length : Int)) = false := by simp; omega
    go_enter Tryd.func60, Tryd.ntmps60
    go_wp2
    go_ret
    exact ⟨rfl, rfl⟩
theorem hasPrefix_any (s p : List UInt8) (w : World) (hs : s.length ≤ 140737488351232) (hp : p.length ≤ 140737488351232) :
    Calls Tryd.prog 46 #[.string ⟨s.toArray⟩, .string ⟨p.toArray⟩] w fun e w' => e = .returned (.bool (preP s p)) ∧ w = w' := by
  go_enter Tryd.func46, Tryd.ntmps46
  go_wp2_with (go_at_call 60; refine (hasPrefixI_any s p _ hs hp).mono ?_; rintro e w1 ⟨rfl, rfl⟩)
  go_ret
  exact ⟨rfl, rfl⟩
end Go.Proofs.YtjpdadibeocpfaaDoor
/-
  Characters that may be in XML (text.Chars), and texts that fit (write.fits). No condition but the reach.
-/
namespace Go.Proofs.YtjpdadibeocpfaaDoor
set_option linter.unusedVariables false
set_option linter.unusedSimpArgs false
open Go.RowKit
attribute [local go_sem] extE
/-- may this character be, read at this place? -/
def okC (s : List UInt8) (pos c : Nat) : Bool := !(decide (c = 65533) && !preP (s.drop pos) [239, 191, 189]) && decide (c ≠ 65534 ∧ c ≠ 65535 ∧ (32 ≤ c ∨ c = 9 ∨ c = 10 ∨ c = 13))
def charsF (s : List UInt8) : Nat → Nat → Bool
  | 0, _ => true
  | n + 1, pos => if pos < s.length then okC s pos (Utf8.decode ⟨s.toArray⟩ pos).1 && charsF s n (pos + (Utf8.decode ⟨s.toArray⟩ pos).2) else true
/-- may all its characters be? -/
def charsP (s : List UInt8) : Bool := charsF s s.length 0
theorem width_pos (s : ByteArray) (pos : Nat) (h : pos < s.size) : 1 ≤ (Utf8.decode s pos).2 := by
  by_cases ha : (s[pos]'h).toNat < 128
  · rw [decode_ascii s pos h ha]
    exact Nat.le_refl _
  · exact (decode_high s pos h (by omega)).2
theorem charsF_end (s : List UInt8) (b pos : Nat) (h : ¬ pos < s.length) : charsF s b pos = true := by
  cases b with
  | zero => rfl
  | succ b => simp [charsF, h]
theorem okC_true {s : List UInt8} {pos c : Nat} (h1 : (c : Int) = 65533 → preP (s.drop pos) [239, 191, 189] = true) (h2 : (c : Int) ≠ 65534 ∧ (c : Int) ≠ 65535 ∧ (32 ≤ (c : Int) ∨ (c : Int) = 9 ∨ (c : Int) = 10 ∨ (c : Int) = 13)) : okC s pos c = true := by
  have e2 : decide (c ≠ 65534 ∧ c ≠ 65535 ∧ (32 ≤ c ∨ c = 9 ∨ c = 10 ∨ c = 13)) = true := by rw [decide_eq_true_eq]; omega
  unfold okC
  rw [e2, Bool.and_true]
  by_cases h : c = 65533
  · rw [h1 (by omega)]; simp
  · simp [h]
theorem okC_pre {s : List UInt8} {pos c : Nat} (h : (c : Int) = 65533) (h1 : preP (s.drop pos) [239, 191, 189] = false) : okC s pos c = false := by
  have h' : c = 65533 := by omega
  simp [okC, h', h1]
theorem okC_not {s : List UInt8} {pos c : Nat} (h2 : ¬((c : Int) ≠ 65534 ∧ (c : Int) ≠ 65535 ∧ (32 ≤ (c : Int) ∨ (c : Int) = 9 ∨ (c : Int) = 10 ∨ (c : Int) = 13))) : okC s pos c = false := by
  have e2 : decide (c ≠ 65534 ∧ c ≠ 65535 ∧ (32 ≤ c ∨ c = 9 ∨ c = 10 ∨ c = 13)) = false := by rw [decide_eq_false_iff_not]; omega
  unfold okC
  rw [e2, Bool.and_false]
set_option maxHeartbeats 1000000 in
theorem textChars_any (s : List UInt8) (w : World) (hs : s.length ≤ 140737488351232) :
    Calls Tryd.prog 31 #[.string ⟨s.toArray⟩] w fun e w' => e = .returned (.bool (charsP s)) ∧ Below w.heap.size w w' := by
  go_enter Tryd.func31, Tryd.ntmps31
  go_wp2
  go_loopw [4] (fun _ wr => ∃ (pos b : Nat), wr = w.iter ⟨s.toArray⟩ pos ∧ charsF s b pos = charsP s ∧ s.length ≤ pos + b) (fun _ w' => s.length - w'.iterPos w.heap.size)
  case atStart => exact ⟨0, s.length, rfl, rfl, by omega⟩
  case round =>
    obtain ⟨pos, b, rfl, hc, hb⟩ := hrel
    by_cases hp : pos < s.length
    · have hnx : ∀ ty, (Instr.next (.pointer (some ⟨w.heap.size, 0, none⟩)) true ty).run Tryd.prog (w.iter ⟨s.toArray⟩ pos) = _ := fun ty => run_next_any w ⟨s.toArray⟩ pos ty hp
      have hwd := width_pos ⟨s.toArray⟩ pos hp
      cases b with
      | zero => omega
      | succ b =>
        rw [charsF, if_pos hp] at hc
        revert hnx hwd hc
        generalize (Utf8.decode ⟨s.toArray⟩ pos).2 = d
        generalize (Utf8.decode ⟨s.toArray⟩ pos).1 = c
        intro hnx hwd hc
        have hl : (s.drop pos).length ≤ 140737488351232 := by rw [List.length_drop]; omega
        cases hpre : preP (s.drop pos) [239, 191, 189]
        all_goals go_wp2_with (go_at_call 46; refine (hasPrefix_any (s.drop pos) [239, 191, 189] _ hl (by simp)).mono ?_; rintro e w1 ⟨rfl, rfl⟩; rw [hpre])
        all_goals first
          | (refine ⟨⟨pos + d, b, rfl, ?_, by omega⟩, by simp; omega⟩
             rw [← hc, okC_true (by first | (intro _; assumption) | (intro h; exfalso; simp at *; omega)) (by simp at *; omega), Bool.true_and])
          | (go_ret
             refine ⟨?_, (Below.refl _ _).alloc (Nat.le_refl _) _⟩
             rw [← hc]
             first
               | (rw [okC_pre (by simp at *; omega) (by assumption)]; rfl)
               | (rw [okC_not (by simp at *; omega)]; rfl))
    · have hnx : ∀ ty, (Instr.next (.pointer (some ⟨w.heap.size, 0, none⟩)) true ty).run Tryd.prog (w.iter ⟨s.toArray⟩ pos) = _ := fun ty => run_next_end w ⟨s.toArray⟩ pos ty hp
      go_wp2
      go_ret
      rw [charsF_end s b pos hp] at hc
      rw [← hc]
      exact ⟨rfl, (Below.refl _ _).alloc (Nat.le_refl _) _⟩
/-- may it be a text? -/
def fitsP (s : List UInt8) : Bool := decide (s.length ≤ 512) && charsP s
theorem fits_any (s : List UInt8) (w : World) (hs : s.length ≤ 140737488351232) :
    Calls Tryd.prog 57 #[.string ⟨s.toArray⟩] w fun e w' => e = .returned (.bool (fitsP s)) ∧ Below w.heap.size w w' := by
  by_cases h : s.length ≤ 512
  · have e1 : fitsP s = charsP s := by simp [fitsP, h]
    have hb : decide ((s.length : Int) ≤ 512) = true := by simp; omega
    rw [e1]
    go_enter Tryd.func57, Tryd.ntmps57
    go_wp2_with (go_at_call 31; refine (textChars_any s _ hs).mono ?_; rintro e w1 ⟨rfl, hb1⟩)
    go_ret
    exact ⟨rfl, hb1⟩
  · have e1 : fitsP s = false := by simp [fitsP, h]
    have hb : decide ((s.length : Int) ≤ 512) = false := by simp; omega
    rw [e1]
    go_enter Tryd.func57, Tryd.ntmps57
    go_wp2
    go_ret
    exact ⟨rfl, Below.refl _ _⟩
end Go.Proofs.YtjpdadibeocpfaaDoor
