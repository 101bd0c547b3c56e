/-
  What the functions on conditions compute: names and types. No condition but that the number is one of its kind.
-/
import Derived.Test.YtpgojinfhfipeaaProg
import Derived.Test.YtpgojinfhfipeaaFaultPure
import Derived.Test.YtpgojinfhfipeaaBase
import Derived.LoopTactic
import Derived.Outline
import Derived.Test.YtpgojinfhfipeaaFaultEntries
namespace Go.Proofs.Ytpgojinfhfipeaa
set_option linter.unusedVariables false
set_option linter.unusedSimpArgs false
open Go.RowKit
theorem known_any (c : Int) (w : World) :
    Calls Try.prog 46 #[.int .i64 c] w fun e w' => e = .returned (.bool (knownB c)) ∧ w = w' := by
  by_cases h1 : 0 < c
  · by_cases h2 : c ≤ 10
    · have e : knownB c = true := by simp [knownB]; omega
      rw [e]
      clear e
      go_enter Try.func46, Try.ntmps46
      go_wp2
      go_ret
      exact ⟨rfl, rfl⟩
    · have e : knownB c = false := by simp [knownB]; omega
      rw [e]
      clear e
      go_enter Try.func46, Try.ntmps46
      go_wp2
      go_ret
      exact ⟨rfl, rfl⟩
  · have e : knownB c = false := by simp [knownB]; omega
    rw [e]
    clear e
    go_enter Try.func46, Try.ntmps46
    go_wp2
    go_ret
    exact ⟨rfl, rfl⟩
theorem idx1 (w : World) : (Instr.index 82 (.agg entriesC) (.int .i64 1)).run Try.prog w = .ok (.agg #[.string ⟨#[98, 97, 100, 45, 114, 101, 113, 117, 101, 115, 116]⟩, .string ⟨#[109, 111, 100, 105, 102, 121]⟩]) w := by kernel_rfl
theorem idx2 (w : World) : (Instr.index 82 (.agg entriesC) (.int .i64 2)).run Try.prog w = .ok (.agg #[.string ⟨#[99, 111, 110, 102, 108, 105, 99, 116]⟩, .string ⟨#[99, 97, 110, 99, 101, 108]⟩]) w := by kernel_rfl
theorem idx3 (w : World) : (Instr.index 82 (.agg entriesC) (.int .i64 3)).run Try.prog w = .ok (.agg #[.string ⟨#[102, 111, 114, 98, 105, 100, 100, 101, 110]⟩, .string ⟨#[97, 117, 116, 104]⟩]) w := by kernel_rfl
theorem idx4 (w : World) : (Instr.index 82 (.agg entriesC) (.int .i64 4)).run Try.prog w = .ok (.agg #[.string ⟨#[105, 116, 101, 109, 45, 110, 111, 116, 45, 102, 111, 117, 110, 100]⟩, .string ⟨#[99, 97, 110, 99, 101, 108]⟩]) w := by kernel_rfl
theorem idx5 (w : World) : (Instr.index 82 (.agg entriesC) (.int .i64 5)).run Try.prog w = .ok (.agg #[.string ⟨#[106, 105, 100, 45, 109, 97, 108, 102, 111, 114, 109, 101, 100]⟩, .string ⟨#[109, 111, 100, 105, 102, 121]⟩]) w := by kernel_rfl
theorem idx6 (w : World) : (Instr.index 82 (.agg entriesC) (.int .i64 6)).run Try.prog w = .ok (.agg #[.string ⟨#[110, 111, 116, 45, 97, 108, 108, 111, 119, 101, 100]⟩, .string ⟨#[99, 97, 110, 99, 101, 108]⟩]) w := by kernel_rfl
theorem idx7 (w : World) : (Instr.index 82 (.agg entriesC) (.int .i64 7)).run Try.prog w = .ok (.agg #[.string ⟨#[110, 111, 116, 45, 97, 117, 116, 104, 111, 114, 105, 122, 101, 100]⟩, .string ⟨#[97, 117, 116, 104]⟩]) w := by kernel_rfl
theorem idx8 (w : World) : (Instr.index 82 (.agg entriesC) (.int .i64 8)).run Try.prog w = .ok (.agg #[.string ⟨#[114, 101, 115, 111, 117, 114, 99, 101, 45, 99, 111, 110, 115, 116, 114, 97, 105, 110, 116]⟩, .string ⟨#[119, 97, 105, 116]⟩]) w := by kernel_rfl
theorem idx9 (w : World) : (Instr.index 82 (.agg entriesC) (.int .i64 9)).run Try.prog w = .ok (.agg #[.string ⟨#[115, 101, 114, 118, 105, 99, 101, 45, 117, 110, 97, 118, 97, 105, 108, 97, 98, 108, 101]⟩, .string ⟨#[99, 97, 110, 99, 101, 108]⟩]) w := by kernel_rfl
theorem idx10 (w : World) : (Instr.index 82 (.agg entriesC) (.int .i64 10)).run Try.prog w = .ok (.agg #[.string ⟨#[117, 110, 101, 120, 112, 101, 99, 116, 101, 100, 45, 114, 101, 113, 117, 101, 115, 116]⟩, .string ⟨#[119, 97, 105, 116]⟩]) w := by kernel_rfl
theorem fld0 (x y : Value) (w : World) : (Instr.field 81 (.agg #[x, y]) 0).run Try.prog w = .ok x w := by kernel_rfl
theorem fld1 (x y : Value) (w : World) : (Instr.field 81 (.agg #[x, y]) 1).run Try.prog w = .ok y w := by kernel_rfl
theorem name_any (c : Int) (w : World) :
    Calls Try.prog 33 #[.int .i64 c] w fun e w' => e = .returned (.string ⟨(nameL c).toArray⟩) ∧ Below w.heap.size w w' := by
  cases hk : knownB c
  · rw [nameL_un hk]
    go_enter Try.func33, Try.ntmps33
    go_wp2_with (go_at_call 46; refine (known_any _ _).mono ?_; rintro e w1 ⟨rfl, rfl⟩; rw [hk])
    go_ret
    exact ⟨rfl, Below.refl _ _⟩
  · have f0 := fld0
    obtain rfl | rfl | rfl | rfl | rfl | rfl | rfl | rfl | rfl | rfl := known_cases hk
    all_goals have i1 := idx1
    all_goals have i2 := idx2
    all_goals have i3 := idx3
    all_goals have i4 := idx4
    all_goals have i5 := idx5
    all_goals have i6 := idx6
    all_goals have i7 := idx7
    all_goals have i8 := idx8
    all_goals have i9 := idx9
    all_goals have i10 := idx10
    all_goals go_enter Try.func33, Try.ntmps33
    all_goals go_wp2_with (first
      | (go_at_call 46; refine (known_any _ _).mono ?_; rintro e w1 ⟨rfl, rfl⟩; rw [hk])
      | (go_at_call 45; refine (entries_any _).mono ?_; rintro e w1 ⟨rfl, o, n, rfl⟩))
    all_goals go_ret
    all_goals exact ⟨rfl, belowN (below1 w _) _⟩
theorem type_any (c : Int) (w : World) :
    Calls Try.prog 34 #[.int .i64 c] w fun e w' => e = .returned (.string ⟨(typeL c).toArray⟩) ∧ Below w.heap.size w w' := by
  cases hk : knownB c
  · rw [typeL_un hk]
    go_enter Try.func34, Try.ntmps34
    go_wp2_with (go_at_call 46; refine (known_any _ _).mono ?_; rintro e w1 ⟨rfl, rfl⟩; rw [hk])
    go_ret
    exact ⟨rfl, Below.refl _ _⟩
  · have f0 := fld1
    obtain rfl | rfl | rfl | rfl | rfl | rfl | rfl | rfl | rfl | rfl := known_cases hk
    all_goals have i1 := idx1
    all_goals have i2 := idx2
    all_goals have i3 := idx3
    all_goals have i4 := idx4
    all_goals have i5 := idx5
    all_goals have i6 := idx6
    all_goals have i7 := idx7
    all_goals have i8 := idx8
    all_goals have i9 := idx9
    all_goals have i10 := idx10
    all_goals go_enter Try.func34, Try.ntmps34
    all_goals go_wp2_with (first
      | (go_at_call 46; refine (known_any _ _).mono ?_; rintro e w1 ⟨rfl, rfl⟩; rw [hk])
      | (go_at_call 45; refine (entries_any _).mono ?_; rintro e w1 ⟨rfl, o, n, rfl⟩))
    all_goals go_ret
    all_goals exact ⟨rfl, belowN (below1 w _) _⟩
end Go.Proofs.Ytpgojinfhfipeaa
