/-
  Equality of an array of five texts, of which the last is empty. No condition.
-/
import Derived.Test.YtpgojinfhfipeaaStPure
import Derived.Laws.StructEq
import Derived.WalkKit
namespace Go.Proofs.Ytpgojinfhfipeaa
set_option linter.unusedVariables false
set_option linter.unusedSimpArgs false
open Go.RowKit Go.MapKept
theorem eq5 (a0 a1 a2 a3 b0 b1 b2 b3 : List UInt8) (w : World) : (Op.equalIn 10000 70 (.agg #[.string ⟨a0.toArray⟩, .string ⟨a1.toArray⟩, .string ⟨a2.toArray⟩, .string ⟨a3.toArray⟩, .string ⟨#[]⟩]) (.agg #[.string ⟨b0.toArray⟩, .string ⟨b1.toArray⟩, .string ⟨b2.toArray⟩, .string ⟨b3.toArray⟩, .string ⟨#[]⟩])).run Try.prog w = .ok (decide (a0 = b0) && decide (a1 = b1) && decide (a2 = b2) && decide (a3 = b3)) w := by
  have u3 := Try.underlying9
  have a3' := Try.isAgg9
  have z3 := Try.sizeOf9
  have hs := fun (a b : ByteArray) (w : World) => run_equalIn_string w 9998 9 a b u3
  rw [show (10000 : Nat) = 9999 + 1 from rfl, Op.equalIn]
  simp only [Sem.run_bind, run_underlying Try.underlying70, Result.andThen_ok]
  simp only [Std.Legacy.Range.forIn_eq_forIn_range', Std.Legacy.Range.size, Nat.sub_zero, Nat.add_sub_cancel, Nat.div_one, List.range'_succ, List.range'_zero, List.forIn_cons, List.forIn_nil]
  go_simp
  by_cases h0 : a0 = b0
  · by_cases h1 : a1 = b1
    · by_cases h2 : a2 = b2
      · by_cases h3 : a3 = b3 <;> simp [h0, h1, h2, h3]
      · simp [h0, h1, h2]
    · simp [h0, h1]
  · simp [h0]
theorem eq5b (a0 a1 a2 a3 b0 b1 b2 b3 : List UInt8) (w : World) : (binOp .eql 70 (.agg #[.string ⟨a0.toArray⟩, .string ⟨a1.toArray⟩, .string ⟨a2.toArray⟩, .string ⟨a3.toArray⟩, .string ⟨#[]⟩]) (.agg #[.string ⟨b0.toArray⟩, .string ⟨b1.toArray⟩, .string ⟨b2.toArray⟩, .string ⟨b3.toArray⟩, .string ⟨#[]⟩])).run Try.prog w = .ok (.bool (decide (a0 = b0) && decide (a1 = b1) && decide (a2 = b2) && decide (a3 = b3))) w := by
  rw [run_eql_struct, eq5]
  rfl
theorem bd5 (a b c d : ByteArray) (w : World) : (Instr.build 70 #[(0, .string a), (1, .string b), (2, .string c), (3, .string d)]).run Try.prog w = .ok (.agg #[.string a, .string b, .string c, .string d, .string ⟨#[]⟩]) w := by kernel_rfl
theorem bd25 (a b c d e f g h i j : ByteArray) (w : World) : (Instr.build 71 #[(0, .agg #[.string a, .string b, .string c, .string d, .string e]), (1, .agg #[.string f, .string g, .string h, .string i, .string j])]).run Try.prog w = .ok (.agg #[.string a, .string b, .string c, .string d, .string e, .string f, .string g, .string h, .string i, .string j]) w := by kernel_rfl
end Go.Proofs.Ytpgojinfhfipeaa
