/-
  What the attributes say, one by one. No program, no condition.
-/
import Derived.Test.YtmapinediglimaaDoorRqPure2
namespace Go.Proofs.YtmapinediglimaaDoor
set_option linter.unusedVariables false
set_option linter.unusedSimpArgs false
open Go.RowKit Go.MapKept
theorem readA_step {r : Rq} {al : Ats} {j : Nat} (h : j < al.length) : readA r (al.take (j + 1)) = setR (readA r (al.take j)) (al[j]'h) := by
  unfold readA
  rw [List.take_add_one, List.getElem?_eq_getElem h, List.foldl_append]
  rfl
theorem set_none (r : Rq) (k v : List UInt8) (h1 : k ≠ nodeW) (h2 : k ≠ itemW) (h3 : k ≠ jidW) (h4 : k ≠ parentW) (h5 : k ≠ roleW) (h6 : k ≠ accessW) (h7 : k ≠ typeW) (h8 : k ≠ maxW) (h9 : k ≠ depthW) : setR r (k, v) = r := by
  simp only [setR, if_neg h1, if_neg h2, if_neg h3, if_neg h4, if_neg h5, if_neg h6, if_neg h7, if_neg h8, if_neg h9]
theorem readR_at {l : List Tk} (h : 1 < l.length) : readR l = { readA (zeroR (verbN (l[1]'h).n)) (l[1]'h).as with tx := if l.length = 5 then (l[2]?.map Tk.t).getD [] else [] } := by
  unfold readR
  rw [List.getElem?_eq_getElem h]
  rfl
theorem set_tx (r : Rq) (p : List UInt8 × List UInt8) : (setR r p).tx = r.tx := by
  unfold setR
  repeat' split
  all_goals rfl
theorem readA_tx' : ∀ (al : Ats) (r : Rq), (readA r al).tx = r.tx
  | [], _ => rfl
  | p :: al, r => by
    show (readA (setR r p) al).tx = r.tx
    rw [readA_tx' al, set_tx]
theorem readA_tx (r : Rq) (al : Ats) : (readA r al).tx = r.tx := readA_tx' al r
end Go.Proofs.YtmapinediglimaaDoor
