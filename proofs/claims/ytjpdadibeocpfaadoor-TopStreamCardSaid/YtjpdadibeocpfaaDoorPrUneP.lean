/-
  An escaped text, read piece by piece: what a cut at '&', at ';' finds. Plain lists, no condition.
-/
import Derived.Test.YtjpdadibeocpfaaDoorTxEsc
import Derived.Test.YtjpdadibeocpfaaDoorJidPure
namespace Go.Proofs.YtjpdadibeocpfaaDoor
set_option linter.unusedVariables false
set_option linter.unusedSimpArgs false
def eC : Nat → UInt8
  | 0 => 38
  | 1 => 60
  | 2 => 62
  | 3 => 39
  | _ => 34
def eN : Nat → List UInt8
  | 0 => [97, 109, 112]
  | 1 => [108, 116]
  | 2 => [103, 116]
  | 3 => [97, 112, 111, 115]
  | _ => [113, 117, 111, 116]
theorem eC_esc : ∀ k, k < 5 → esc1 (eC k) = 38 :: (eN k ++ [59]) := by decide
theorem eN_semi : ∀ k, k < 5 → (59 : UInt8) ∉ eN k := by decide
def mildL (u : List UInt8) : Prop := ∀ c ∈ u, c ≠ 38 ∧ c ≠ 60 ∧ esc1 c = [c]
theorem mild_or (c : UInt8) : (∃ k, k < 5 ∧ c = eC k) ∨ (c ≠ 38 ∧ c ≠ 60 ∧ esc1 c = [c]) := by
  by_cases h1 : c = 38
  · exact .inl ⟨0, by omega, h1⟩
  by_cases h2 : c = 60
  · exact .inl ⟨1, by omega, h2⟩
  by_cases h3 : c = 62
  · exact .inl ⟨2, by omega, h3⟩
  by_cases h4 : c = 39
  · exact .inl ⟨3, by omega, h4⟩
  by_cases h5 : c = 34
  · exact .inl ⟨4, by omega, h5⟩
  exact .inr ⟨h1, h2, by simp [esc1, h1, h2, h3, h4, h5]⟩
theorem mild_esc : ∀ {u : List UInt8}, mildL u → escL u = u
  | [], _ => rfl
  | c :: u, h => by
    have := mild_esc (u := u) fun x hx => h x (.tail _ hx)
    unfold escL at *
    rw [List.flatMap_cons, this, (h c (.head _)).2.2]
    rfl
theorem mild_split : ∀ t : List UInt8, mildL t ∨ ∃ u k v, k < 5 ∧ t = u ++ eC k :: v ∧ mildL u
  | [] => .inl fun c h => by cases h
  | c :: t => by
    rcases mild_or c with ⟨k, hk, rfl⟩ | hc
    · exact .inr ⟨[], k, t, hk, rfl, fun c h => by cases h⟩
    · rcases mild_split t with h | ⟨u, k, v, hk, rfl, h⟩
      · exact .inl fun x hx => by
          rcases List.mem_cons.1 hx with rfl | hx
          · exact hc
          · exact h x hx
      · exact .inr ⟨c :: u, k, v, hk, rfl, fun x hx => by
          rcases List.mem_cons.1 hx with rfl | hx
          · exact hc
          · exact h x hx⟩
theorem esc_split {u v : List UInt8} {k : Nat} (hk : k < 5) (hu : mildL u) : escL (u ++ eC k :: v) = u ++ 38 :: (eN k ++ 59 :: escL v) := by
  have h1 := mild_esc hu
  unfold escL at *
  rw [List.flatMap_append, List.flatMap_cons, h1, eC_esc k hk]
  simp
theorem ycut_no {c : UInt8} : ∀ {u : List UInt8}, c ∉ u → cutB c u = (u, [], false)
  | [], _ => rfl
  | b :: u, h => by
    have hb : (b == c) = false := by
      rw [beq_eq_false_iff_ne]; rintro rfl; exact h (.head _)
    rw [cutB, hb, ycut_no fun hx => h (.tail _ hx)]
    rfl
theorem ycut_at {c : UInt8} {r : List UInt8} : ∀ {u : List UInt8}, c ∉ u → cutB c (u ++ c :: r) = (u, r, true)
  | [], _ => by simp [cutB]
  | b :: u, h => by
    have hb : (b == c) = false := by
      rw [beq_eq_false_iff_ne]; rintro rfl; exact h (.head _)
    rw [List.cons_append, cutB, hb, ycut_at fun hx => h (.tail _ hx)]
    rfl
theorem index_no {c : UInt8} : ∀ {u : List UInt8}, c ∉ u → Lib.indexByte u c = -1
  | [], _ => rfl
  | b :: u, h => by
    have hb : (b == c) = false := by
      rw [beq_eq_false_iff_ne]; rintro rfl; exact h (.head _)
    unfold Lib.indexByte
    rw [index_no fun hx => h (.tail _ hx)]
    simp [hb]
theorem mild_no {u : List UInt8} (h : mildL u) : (38 : UInt8) ∉ u ∧ (60 : UInt8) ∉ u := ⟨fun hx => (h _ hx).1 rfl, fun hx => (h _ hx).2.1 rfl⟩
theorem esc_ge : ∀ t : List UInt8, t.length ≤ (escL t).length
  | [] => Nat.le_refl _
  | c :: t => by
    have ih := esc_ge t
    have h1 : 1 ≤ (esc1 c).length := by
      unfold esc1
      repeat (split; · decide)
      simp
    unfold escL at *
    rw [List.flatMap_cons, List.length_append, List.length_cons]
    omega
end Go.Proofs.YtjpdadibeocpfaaDoor
