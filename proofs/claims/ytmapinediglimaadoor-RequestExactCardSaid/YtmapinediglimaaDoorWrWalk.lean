/-
  How many elements are open behind each token (write.walk): the iterator. Condition: no text beyond the reach.
-/
import Derived.Test.YtmapinediglimaaDoorWrRight
import Derived.Test.YtmapinediglimaaDoorRange
import Derived.RangeFuncBox
import Derived.RangeFuncNested
import Derived.RangeFuncBound
import Derived.RangeFuncCalls
import Derived.RangeFuncLeaves
import Derived.Shelf.Abstract
import Derived.Shelf.RegionOpen
import Derived.OwnWalkIn
import Derived.TacticsInMore
import Derived.LoopNIn
import Derived.LoopIn
import Derived.Maps.AppendAt
namespace Go.Proofs.YtmapinediglimaaDoor
set_option linter.unusedVariables false
set_option linter.unusedSimpArgs false
open Go.RowKit Go.MapKept Go.Shelf
attribute [local go_sem] Oper.semAt_some
/-- what is open behind one token more; none: it can't be -/
def stepT (prev : Int) (op : List (List UInt8)) (tk : Tk) : Option (List (List UInt8)) :=
  if rightT tk = false then none
  else if tk.k = 1 ∧ op.length < 8 then some (op ++ [tk.n])
  else if tk.k = 2 ∧ 0 < op.length ∧ op.getD (op.length - 1) [] = tk.n then some (op.take (op.length - 1))
  else if tk.k = 3 ∧ 0 < op.length ∧ prev ≠ 3 then some op
  else none
def prevK (l : List Tk) (k : Nat) : Int := if k = 0 then 0 else (l[k - 1]?.map Tk.k).getD 0
/-- what is open behind k tokens -/
def opsTo (l : List Tk) : Nat → Option (List (List UInt8))
  | 0 => some []
  | k + 1 => match opsTo l k, l[k]? with
    | some op, some tk => stepT (prevK l k) op tk
    | _, _ => none
/-- the pairs that have come -/
def yields (l : List Tk) (k : Nat) : List (Nat × Nat) := (List.range k).map fun j => (j, ((opsTo l (j + 1)).getD []).length)
theorem yields_succ (l : List Tk) (k : Nat) : yields l (k + 1) = yields l k ++ [(k, ((opsTo l (k + 1)).getD []).length)] := by simp [yields, List.range_succ]
/-- what a round must keep: whatever lay below n₀, the box, and what lies from Bo on -/
structure KeepW (n₀ Bs Bo : Nat) (A C : World) : Prop where
  os : C.os = A.os
  tape : C.tape = A.tape
  output : C.output = A.output
  size : A.heap.size ≤ C.heap.size
  block : ∀ k, k < A.heap.size → (k < n₀ ∨ k = Bs ∨ Bo ≤ k) → C.heap[k]? = A.heap[k]?
theorem KeepW.trans {n₀ Bs Bo : Nat} {A B C : World} (h : KeepW n₀ Bs Bo A B) (k : KeepW n₀ Bs Bo B C) : KeepW n₀ Bs Bo A C :=
  ⟨k.os.trans h.os, k.tape.trans h.tape, k.output.trans h.output, Nat.le_trans h.size k.size, fun i hi hc => (k.block i (Nat.lt_of_lt_of_le hi h.size) hc).trans (h.block i hi hc)⟩
theorem KeepW.below {n₀ Bs Bo : Nat} {A C : World} (h : KeepW n₀ Bs Bo A C) (hn : n₀ ≤ A.heap.size) : Below n₀ A C := ⟨h.os, h.tape, h.output, h.size, fun i hi => h.block i (by omega) (.inl hi)⟩
theorem infoS : (Tryd.prog.info? 9).map (fun i => (i.zero, i.size, i.bytes)) = some (some (.string ⟨#[]⟩), 1, 16) := by kernel_rfl
def nameCells (op : List (List UInt8)) : List Value := op.map fun n => .string ⟨n.toArray⟩
theorem owns_keep {w w' : World} {base : Nat} {e : TypeId} {size : Nat} {v : Value} {n : Nat} {xs : List Value} (h : w.ownsRow base e size v n xs) (hk : ∀ g, base ≤ g → g < w.heap.size → w'.heap[g]? = w.heap[g]?) : w'.ownsRow base e size v n xs := by
  refine ⟨h.1, ?_⟩
  rcases h.2 with h2 | ⟨g, cap, cur, h1, h2, h3, h4⟩
  · exact .inl h2
  · exact .inr ⟨g, cap, cur, h1, h2, (hk g h2 (Array.getElem?_eq_some_iff.1 h3).1).trans h3, h4⟩
theorem below_grown {A C : World} (h : Below A.heap.size A C) : A.grownBy C none := ⟨h.os, h.tape, h.output, h.size, fun k hk _ => h.block k hk⟩
theorem KeepW.grown {n₀ Bs Bo : Nat} {A B C : World} {row : Option Nat} (h : KeepW n₀ Bs Bo A B) (hg : B.grownBy C row) (hr : ∀ r, row = some r → A.heap.size ≤ r) : KeepW n₀ Bs Bo A C :=
  ⟨hg.os.trans h.os, hg.tape.trans h.tape, hg.output.trans h.output, Nat.le_trans h.size hg.size, fun i hi hc => (hg.block i (Nat.lt_of_lt_of_le hi h.size) (fun e => by have := hr i e.symm; omega)).trans (h.block i hi hc)⟩
theorem wrapM (m : Nat) (h : m ≤ 100) : IntKind.i64.wrap (m : Int) = (m : Int) := wrap_small _ (by omega) (by omega)
theorem exec_index {P : Program} {a : Act} {o : Oper} {w : World} {t : TypeId} {x ix : Operand} {X I v : Value} (ho : o.op = .indexAddr t x ix) (hX : a.eval x = X) (hI : a.eval ix = I) (h : (Instr.indexAt t X I).run P w = .ok v w) : (execOp a.eval o).run P w = .ok (.value v) w := by
  simp [execOp, ho, hX, hI, h, Result.andThen]
theorem ix_top (g m c : Nat) (w : World) : (Instr.indexAt 65 (.slice (some ⟨g, 0, none⟩) (m + 1) c) (.int .i64 (m : Int))).run Tryd.prog w = .ok (.pointer (some ⟨g, m, none⟩)) w := by
  have hsz : (sizeOf (Tryd.prog.elem 65)).run Tryd.prog w = .ok 1 w := by kernel_rfl
  rw [run_indexAt_slice (h := by kernel_rfl), if_pos (by omega), hsz]
  simp only [Result.andThen, Int.toNat_natCast, Nat.mul_one]
  rw [Addr.add_lit, Nat.zero_add]
theorem owns_take {w : World} {base : Nat} {g n m c : Nat} {op : List (List UInt8)} (hm : m ≤ op.length) (h : w.ownsRow base 9 1 (.slice (some ⟨g, 0, none⟩) n c) op.length (nameCells op)) : w.drew.ownsRow base 9 1 (.slice (some ⟨g, 0, none⟩) m c) (op.take m).length (nameCells (op.take m)) := by
  have hl : (op.take m).length = m := by simp [hm]
  rcases h.2 with ⟨hv, _⟩ | ⟨g', cap, cur, hv, hb, hg, hnc, hcm, hcs, ht⟩
  · cases hv
  · injection hv with h1 h2 h3
    injection h1 with h1
    injection h1 with h1 _ _
    subst h1 h3
    refine ⟨by simp [nameCells, hm], .inr ⟨g, c, cur, by rw [hl], hb, hg, by omega, hcm, hcs, ?_⟩⟩
    rw [hl]
    have := congrArg (List.take m) ht
    rw [List.take_take] at this
    simp only [Nat.mul_one] at this ⊢
    rw [Nat.min_eq_left hm] at this
    rw [this]
    simp [nameCells, List.map_take]
theorem owns_shape {w : World} {base : Nat} {e : TypeId} {size : Nat} {v : Value} {n : Nat} {xs : List Value} (h : w.ownsRow base e size v n xs) : ∃ a c, v = .slice a n c := by
  rcases h.2 with ⟨hv, h0⟩ | ⟨g, cap, cur, hv, _⟩
  · exact ⟨_, _, by rw [hv, h0]⟩
  · exact ⟨_, _, hv⟩
end Go.Proofs.YtmapinediglimaaDoor
