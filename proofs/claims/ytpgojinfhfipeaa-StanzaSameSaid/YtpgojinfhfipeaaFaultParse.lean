/-
  The condition of a name, by the program. No condition.
-/
import Derived.Test.YtpgojinfhfipeaaFaultRef2
namespace Go.Proofs.Ytpgojinfhfipeaa
set_option linter.unusedVariables false
set_option linter.unusedSimpArgs false
open Go.RowKit
theorem idx0 (w : World) : (Instr.index 82 (.agg entriesC) (.int .i64 0)).run Try.prog w = .ok (.agg #[.string ⟨#[]⟩, .string ⟨#[]⟩]) w := by kernel_rfl
def entryV (k : Nat) : Value := .agg #[.string ⟨(nameL k).toArray⟩, .string ⟨(typeL k).toArray⟩]
theorem idxK (k : Nat) (hk : k < 11) (w : World) : (Instr.index 82 (.agg entriesC) (.int .i64 k)).run Try.prog w = .ok (.agg #[.string ⟨(nameL k).toArray⟩, .string ⟨(typeL k).toArray⟩]) w := by
  obtain rfl | rfl | rfl | rfl | rfl | rfl | rfl | rfl | rfl | rfl | rfl : k = 0 ∨ k = 1 ∨ k = 2 ∨ k = 3 ∨ k = 4 ∨ k = 5 ∨ k = 6 ∨ k = 7 ∨ k = 8 ∨ k = 9 ∨ k = 10 := by omega
  · exact idx0 w
  · exact idx1 w
  · exact idx2 w
  · exact idx3 w
  · exact idx4 w
  · exact idx5 w
  · exact idx6 w
  · exact idx7 w
  · exact idx8 w
  · exact idx9 w
  · exact idx10 w
theorem condParse_any (s : List UInt8) (w : World) :
    Calls Try.prog 27 #[.string ⟨s.toArray⟩] w fun e w' => e = .returned (parseC s) ∧ Below w.heap.size w w' := by
  go_enter Try.func27, Try.ntmps27
  go_wp2_with (go_at_call 45; refine (entries_any _).mono ?_; rintro e w1 ⟨rfl, o, n, rfl⟩)
  go_loopw [7] (fun i wr => ∃ k : Nat, k ≤ 11 ∧ i = .int .i64 k ∧ Hid (∀ j : Nat, 1 ≤ j → j < k → nameL j ≠ s) ∧ Below w.heap.size w wr) (fun i _ => 11 - (intOf i).toNat)
  case atStart => exact ⟨0, by omega, rfl, fun j h1 h2 => by omega, belowN (below1 w _) _⟩
  case round =>
    obtain ⟨k, h2, rfl, HN, hB⟩ := hrel
    by_cases hk : k < 11
    · have hi := idxK k hk
      by_cases he : nameL k = s
      · have hb : (nameL (k : Int) == s) = true := by simpa using he
        by_cases h0 : k = 0
        · have hkn : knownB k = false := by subst h0; rfl
          have h9 : k + 1 ≤ 11 ∧ k < 1 := by omega
          clear h0
          go_wp2_with (go_at_call 46; refine (known_any _ _).mono ?_; rintro e w1 ⟨rfl, rfl⟩; rw [hkn])
          go_roundw
          case rel =>
            refine ⟨k + 1, by omega, by go_num, fun j g1 g2 => by omega, ?_⟩
            exact belowA hB _
          case measure => simp [intOf]; omega
        · have hkn : knownB k = true := by simp [knownB]; omega
          have hc : Hid (condL s = k) := condL_hit hkn he
          go_wp2_with (go_at_call 46; refine (known_any _ _).mono ?_; rintro e w1 ⟨rfl, rfl⟩; rw [hkn])
          go_ret2
          refine ⟨?_, belowA hB _⟩
          unfold parseC
          rw [hc.out, hkn]
          rfl
      · have hb : (nameL (k : Int) == s) = false := by simpa using he
        go_wp2_with fail
        go_roundw
        case rel =>
          refine ⟨k + 1, by omega, by go_num, fun j g1 g2 => ?_, belowA hB _⟩
          by_cases e : j = k
          · subst e; exact he
          · exact HN.out j g1 (by omega)
        case measure => simp [intOf]; omega
    · obtain rfl : k = 11 := by omega
      have hc : Hid (condL s = 0) := condL_none fun j hj => by
        have := HN.out j.toNat (by simp [knownB] at hj; omega) (by simp [knownB] at hj; omega)
        rwa [show ((j.toNat : Nat) : Int) = j by simp [knownB] at hj; omega] at this
      go_wp2
      go_ret2
      refine ⟨?_, hB⟩
      unfold parseC
      rw [hc.out]
      rfl
end Go.Proofs.Ytpgojinfhfipeaa
