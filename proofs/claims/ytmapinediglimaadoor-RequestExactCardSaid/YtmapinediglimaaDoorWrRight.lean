/-
  Which tokens are right by themselves (write.right). Condition: no text beyond the reach.
-/
import Derived.Test.YtmapinediglimaaDoorWrTok
import Derived.Test.YtmapinediglimaaDoorTxA
import Derived.Test.YtmapinediglimaaDoorFloat
namespace Go.Proofs.YtmapinediglimaaDoor
set_option linter.unusedVariables false
set_option linter.unusedSimpArgs false
open Go.RowKit Go.MapKept
/-- are these attributes right behind those names? -/
def attrsP (seen : List (List UInt8)) : Ats → Bool
  | [] => true
  | p :: r => !seen.contains p.1 && nameP p.1 && fitsP p.2 && decide (seen.length < 8) && attrsP (seen ++ [p.1]) r
/-- has a token just what its kind names? -/
def rightT (tk : Tk) : Bool :=
  if tk.k = 3 then tk.n == [] && tk.as.isEmpty && !(tk.t == []) && fitsP tk.t
  else if tk.k = 2 then nameP tk.n && tk.t == [] && tk.as.isEmpty
  else if tk.k = 1 then attrsP [] tk.as && nameP tk.n && tk.t == []
  else false
theorem attrsP_step {seen : List (List UInt8)} {al : Ats} {j : Nat} (h : j < al.length) : attrsP seen (al.drop j) = (!seen.contains (al[j]'h).1 && nameP (al[j]'h).1 && fitsP (al[j]'h).2 && decide (seen.length < 8) && attrsP (seen ++ [(al[j]'h).1]) (al.drop (j + 1))) := by
  rw [List.drop_eq_getElem_cons h, attrsP]
def seenOf (al : Ats) (j : Nat) : List (List UInt8) := (al.take j).map (·.1)
theorem seenOf_snoc {al : Ats} {j : Nat} (h : j < al.length) : seenOf al (j + 1) = seenOf al j ++ [(al[j]'h).1] := by
  unfold seenOf
  rw [List.take_succ_eq_append_getElem h, List.map_append, List.map_cons, List.map_nil]
theorem seenOf_len {al : Ats} {j : Nat} (h : j ≤ al.length) : (seenOf al j).length = j := by simp [seenOf, h]
end Go.Proofs.YtmapinediglimaaDoor
