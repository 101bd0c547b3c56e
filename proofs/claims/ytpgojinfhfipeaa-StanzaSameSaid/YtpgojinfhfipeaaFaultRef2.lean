/-
  The condition of a name, by the reference. No condition.
-/
import Derived.Test.YtpgojinfhfipeaaFaultRef
namespace Go.Proofs.Ytpgojinfhfipeaa
set_option linter.unusedVariables false
set_option linter.unusedSimpArgs false
open Go.RowKit
theorem condL_hit {k : Int} {s : List UInt8} (hk : knownB k = true) (h : nameL k = s) : condL s = k := by
  subst h
  obtain rfl | rfl | rfl | rfl | rfl | rfl | rfl | rfl | rfl | rfl := known_cases hk
  all_goals decide
theorem condL_none {s : List UInt8} (h : ∀ j : Int, knownB j = true → nameL j ≠ s) : condL s = 0 := by
  unfold condL
  have e : ∀ j : Int, knownB j = true → ¬ s = nameL j := fun j hj e => h j hj e.symm
  refine (if_neg (e 1 rfl)).trans ?_
  refine (if_neg (e 2 rfl)).trans ?_
  refine (if_neg (e 3 rfl)).trans ?_
  refine (if_neg (e 4 rfl)).trans ?_
  refine (if_neg (e 5 rfl)).trans ?_
  refine (if_neg (e 6 rfl)).trans ?_
  refine (if_neg (e 7 rfl)).trans ?_
  refine (if_neg (e 8 rfl)).trans ?_
  refine (if_neg (e 9 rfl)).trans ?_
  refine (if_neg (e 10 rfl)).trans ?_
  rfl
def parseC (s : List UInt8) : Value := .tuple #[.int .i64 (condL s), .bool (knownB (condL s))]
theorem condParse0_any (s : List UInt8) (w : World) :
    Calls Try.prog 28 #[.string ⟨s.toArray⟩] w fun e w' => e = .returned (parseC s) ∧ w = w' := by
  go_enter Try.func28, Try.ntmps28
  go_wp2
  go_loopw [4] (fun i wr => ∃ k : Nat, 1 ≤ k ∧ k ≤ 11 ∧ i = .int .i64 k ∧ Hid (∀ j : Nat, 1 ≤ j → j < k → nameL j ≠ s) ∧ w = wr) (fun i _ => 11 - (intOf i).toNat)
  case atStart => exact ⟨1, by omega, by omega, rfl, fun j h1 h2 => by omega, rfl⟩
  case round =>
    obtain ⟨k, h1, h2, rfl, HN, rfl⟩ := hrel
    by_cases hk : k ≤ 10
    · by_cases he : nameL k = s
      · have hc : Hid (condL s = k) := condL_hit (by simp [knownB]; omega) he
        go_wp2_with (go_at_call 21; refine (name0_any _ _).mono ?_; rintro e w1 ⟨rfl, rfl⟩)
        go_ret2
        refine ⟨?_, rfl⟩
        unfold parseC
        rw [hc.out]
        simp [knownB]
        omega
      · have hb : (nameL (k : Int) == s) = false := by simpa using he
        go_wp2_with (go_at_call 21; refine (name0_any _ _).mono ?_; rintro e w1 ⟨rfl, rfl⟩)
        go_roundw
        case rel =>
          refine ⟨k + 1, by omega, by omega, by go_num, fun j g1 g2 => ?_, trivial⟩
          by_cases e : j = k
          · subst e; exact he
          · exact HN.out j g1 (by omega)
        case measure => simp [intOf]; omega
    · obtain rfl : k = 11 := by omega
      have hc : Hid (condL s = 0) := condL_none fun j hj => by
        have := HN.out j.toNat (by simp [knownB] at hj; omega) (by simp [knownB] at hj; omega)
        rwa [show ((j.toNat : Nat) : Int) = j by simp [knownB] at hj; omega] at this
      go_wp2
      go_ret2
      refine ⟨?_, rfl⟩
      unfold parseC
      rw [hc.out]
      rfl
end Go.Proofs.Ytpgojinfhfipeaa
