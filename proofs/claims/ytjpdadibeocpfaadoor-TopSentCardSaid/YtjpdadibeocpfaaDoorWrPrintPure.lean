/-
  What tokens print, and what right tokens are (plain). No program but the names of the walks' words.
-/
import Derived.Test.YtjpdadibeocpfaaDoorWrOps
import Derived.Test.YtjpdadibeocpfaaDoorTxEsc
namespace Go.Proofs.YtjpdadibeocpfaaDoor
set_option linter.unusedVariables false
set_option linter.unusedSimpArgs false
def atP (p : List UInt8 × List UInt8) : List UInt8 := [32] ++ p.1 ++ [61, 39] ++ escL p.2 ++ [39]
def atsL (al : Ats) : List UInt8 := al.flatMap atP
def printR : List Tk → List UInt8
  | [] => []
  | tk :: r =>
    if tk.k = 3 then escL tk.t ++ printR r
    else if tk.k = 2 then [60, 47] ++ tk.n ++ [62] ++ printR r
    else [60] ++ tk.n ++ atsL tk.as ++ (match r with
      | e :: r' => if e.k = 2 then [47] ++ [62] ++ printR r' else [62] ++ printR (e :: r')
      | [] => [62])
theorem print_end (n : List UInt8) (a : Ats) (t : List UInt8) (r : List Tk) : printR (⟨2, n, a, t⟩ :: r) = [60, 47] ++ n ++ [62] ++ printR r := by
  rw [printR.eq_def]; simp
theorem print_text (n : List UInt8) (a : Ats) (t : List UInt8) (r : List Tk) : printR (⟨3, n, a, t⟩ :: r) = escL t ++ printR r := by
  rw [printR.eq_def]; simp
theorem print_beg (n : List UInt8) (a : Ats) (t : List UInt8) (e : Tk) (r : List Tk) : printR (⟨1, n, a, t⟩ :: e :: r) = [60] ++ n ++ atsL a ++ (if e.k = 2 then [47] ++ [62] ++ printR r else [62] ++ printR (e :: r)) := by
  rw [printR.eq_def]; simp
theorem atsL_snoc (al : Ats) (j : Nat) (h : j < al.length) : atsL (al.take (j + 1)) = atsL (al.take j) ++ atP (al[j]'h) := by
  unfold atsL
  rw [List.take_succ_eq_append_getElem h, List.flatMap_append, List.flatMap_cons, List.flatMap_nil, List.append_nil]
end Go.Proofs.YtjpdadibeocpfaaDoor
