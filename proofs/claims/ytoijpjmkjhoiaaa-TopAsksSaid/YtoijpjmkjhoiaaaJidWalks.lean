/-
  What the program's functions on addresses compute: parts, texts, whether one is right (package jid). Each string shorter than the reach.
-/
import Derived.Test.YtoijpjmkjhoiaaaProg
import Derived.Test.YtoijpjmkjhoiaaaJidPure
import Derived.Test.YtoijpjmkjhoiaaaBase
import Derived.WalkKit
import Derived.LoopTactic
import Derived.Lib.Hide
import Derived.Outline
namespace Go.Proofs.Ytoijpjmkjhoiaaa
set_option linter.unusedVariables false
set_option linter.unusedSimpArgs false
open Go.RowKit
theorem le64 (n : Nat) : decide ((n : Int) ≤ 64) = decide (n ≤ 64) := by rw [decide_eq_decide]; omega
attribute [local go_sem] mk_get
theorem or32 (c : UInt8) : (97 ≤ Go.bits .or .u8 (c.toNat : Int) 32 ∧ Go.bits .or .u8 (c.toNat : Int) 32 ≤ 122) ↔ ((97 ≤ c.toNat ∧ c.toNat ≤ 122) ∨ (65 ≤ c.toNat ∧ c.toNat ≤ 90)) :=
  all_u8 (p := fun c => (97 ≤ Go.bits .or .u8 (c.toNat : Int) 32 ∧ Go.bits .or .u8 (c.toNat : Int) 32 ≤ 122) ↔ ((97 ≤ c.toNat ∧ c.toNat ≤ 122) ∨ (65 ≤ c.toNat ∧ c.toNat ≤ 90))) (by decide +kernel) c
set_option maxHeartbeats 1000000 in
theorem part_any (s : List UInt8) (w : World) (hs : s.length ≤ 140737488351232) :
    Calls Try.prog 58 #[.string ⟨s.toArray⟩] w fun e w' => e = .returned (.bool (partP s)) ∧ w = w' := by
  go_enter Try.func58, Try.ntmps58
  go_wp2
  go_loop [7] (fun i => ∃ k : Nat, k ≤ s.length ∧ i = .int .i64 k ∧ Hid (lettersL (s.take k) = true)) (fun i => s.length - (intOf i).toNat)
  case atStart => exact ⟨0, Nat.zero_le _, rfl, rfl⟩
  case round =>
    obtain ⟨k, hk, rfl, HA⟩ := hrel
    by_cases hlt : k < s.length
    · have HX := Lib.hid (or32 s[k])
      go_wp2
      all_goals first
        | (go_round
           case rel => exact ⟨k + 1, by omega, by go_num, letters_snoc s k hlt HA.out (by simp only [letterN, decide_eq_true_eq]; have := HX.out; simp at *; omega)⟩
           case measure => simp [intOf]; omega)
        | (go_ret; exact ⟨ret_bool (partP_no (letters_not s k hlt (by simp only [letterN, decide_eq_false_iff_not]; have := HX.out; simp at *; omega))), rfl⟩)
    · go_wp2
      all_goals (go_ret; refine ⟨ret_bool ?_, rfl⟩; have hl := letters_all s k hlt HA.out; simp_all [partP, part0, le64])
theorem join_any (l d r : List UInt8) (w : World) (h1 : l.length ≤ 64) (h2 : d.length ≤ 64) (h3 : r.length ≤ 64) :
    Calls Try.prog 80 #[.agg #[.string ⟨l.toArray⟩, .string ⟨d.toArray⟩, .string ⟨r.toArray⟩]] w fun e w' => e = .returned (.string ⟨(joinL l d r).toArray⟩) ∧ Below w.heap.size w w' := by
  go_enter Try.func80, Try.ntmps80
  go_wp2
  all_goals
    go_ret
    refine ⟨ret_str ?_, (Below.refl _ _).alloc (Nat.le_refl _) _⟩
    unfold joinL
    simp_all
end Go.Proofs.Ytoijpjmkjhoiaaa
