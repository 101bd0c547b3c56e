/-
  What a stream's texts bring. Plain facts, no condition.
-/
import Derived.Test.YtjpdadibeocpfaaDoorTcA
import Derived.Test.YtjpdadibeocpfaaDoorWrWrapPure
namespace Go.Proofs.YtjpdadibeocpfaaDoor
set_option linter.unusedVariables false
set_option linter.unusedSimpArgs false
def stN : List UInt8 := [115, 116, 114, 101, 97, 109]
theorem st_good : nameP stN = true := by decide
theorem st_open : Tr ⟨[], 0, [], false⟩ [60, 115, 116, 114, 101, 97, 109, 62] ⟨[], 0, [stN], true⟩ [⟨1, stN, [], []⟩] :=
  tag_tr (.beg stN []) [] [stN] false true rfl ⟨st_good, rfl⟩ ⟨by decide, .inr rfl, rfl, rfl⟩ (by decide)
theorem st_shut : Tr ⟨[], 0, [stN], true⟩ [60, 47, 115, 116, 114, 101, 97, 109, 62] ⟨[], 0, [], true⟩ [⟨2, stN, [], []⟩] :=
  tag_tr (.fin stN) [stN] [] true true rfl st_good ⟨rfl, by decide, rfl⟩ (by decide)
theorem low_name (y : UInt8) (h : 97 ≤ y.toNat ∧ y.toNat ≤ 122) : nameP [y] = true := by
  have h1 : nameTo [y] [y].length := fun i hi _ => by
    obtain rfl : i = 0 := by simpa using hi
    simp only [List.getElem_cons_zero]
    unfold nameAt
    rw [decide_eq_true_eq]
    exact .inl h
  unfold nameP
  rw [decide_eq_true h1]
  rfl
theorem st_each (y : UInt8) (h : 97 ≤ y.toNat ∧ y.toNat ≤ 122) : Tr ⟨[], 0, [stN], true⟩ [60, y, 47, 62] ⟨[], 0, [stN], true⟩ [⟨1, [y], [], []⟩, ⟨2, [y], [], []⟩] :=
  tag_tr (.emp [y] []) [stN] [stN] true true rfl ⟨low_name y h, rfl⟩ ⟨by show 1 < 8; decide, .inl (by decide), rfl, rfl⟩ (by show (4 : Nat) ≤ 2048; decide)
theorem st_print (y : UInt8) : printR [⟨1, [y], [], []⟩, ⟨2, [y], [], []⟩] = [60, y, 47, 62] := by
  rw [print_beg, if_pos rfl]
  rfl
theorem st_right (y : UInt8) (h : 97 ≤ y.toNat ∧ y.toNat ≤ 122) : rightL [⟨1, [y], [], []⟩, ⟨2, [y], [], []⟩] = true := by
  rw [named_right, low_name y h]
theorem st_part : Tr ⟨[], 0, [], true⟩ [60, 97] ⟨[60, 97], 0, [], true⟩ [] := by
  have h1 : StepR ⟨[], 0, [], true⟩ 60 (some (⟨[60], 0, [], true⟩, [])) := .opn rfl rfl
  have h2 : StepR ⟨[60], 0, [], true⟩ 97 (some (⟨[60, 97], qStep 0 97, [], true⟩, [])) := .tag 97 [] rfl (by decide) (by decide) (.inl rfl) (by decide)
  exact .cons h1 (.cons h2 (.nil _))
theorem st_fall : FailR ⟨[60, 97], 0, [], true⟩ 62 6 := .inr ⟨[97], rfl, by decide, rfl, rfl, rfl, rfl, rfl⟩
end Go.Proofs.YtjpdadibeocpfaaDoor
