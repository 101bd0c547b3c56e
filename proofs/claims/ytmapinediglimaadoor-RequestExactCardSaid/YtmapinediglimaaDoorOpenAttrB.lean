/-
  The opening of an attribute that the law is handed, with its texts' bounds. No condition.
-/
import Derived.Test.YtmapinediglimaaDoorOpenTk
namespace Go.Proofs.YtmapinediglimaaDoor
set_option linter.unusedVariables false
set_option linter.unusedSimpArgs false
open Go.RowKit Go.MapKept Go.ChangeShapes Go.WideShapes Go.ChangeAt Go.Joins Go.Deep
section
variable {H : Type} {enc : TypeId × Value → H} {W : World} {base b0 : Nat} {spare : Nat → Bool} {held : Bool} {r : Reach}
set_option maxRecDepth 100000 in
theorem openAttrB {ts : List TypeId} {ds : List (DataW H)} {j : Nat} {v : Value} {d : DataW H} {p : List MemPlace} (hv : Value.okWide Tryd.prog W r b0 35 v) (h : DataW.Trod enc Tryd.prog W base spare held 35 v d p)
    (hsz : (DataW.weightsEach Tryd.prog ts ds).all (· ≤ reachBytes) = true) (ht : ts[j]? = some 35) (hd : ds[j]? = some d) :
    ∃ x y : List UInt8, v = .agg #[.string ⟨x.toArray⟩, .string ⟨y.toArray⟩] ∧ x.length ≤ 140737488351232 ∧ y.length ≤ 140737488351232 := by
  obtain ⟨f0, f1, hs, o0, o1, t0, t1⟩ := attrF
  have hone : oneCellFields Tryd.prog #[f0, f1] = true := by
    simp only [oneCellFields, List.all_eq_true]
    intro i hi
    have hi' : i < 2 := by simpa using hi
    match i, hi' with
    | 0, _ => simp [o0, t0, cSt]
    | 1, _ => simp [o1, t1, cSt]
  obtain ⟨c0, c1, y0, y1, n, rfl, rfl, -, h0, h1⟩ := open_agg2 hs hone cAt hv h
  rw [t0] at h0
  rw [t1] at h1
  obtain ⟨x, rfl, e0⟩ := strOf h0
  obtain ⟨y, rfl, e1⟩ := strOf h1
  have hw := fun n hn => of_decide_eq_true (List.all_eq_true.1 hsz _ (DataW.weights_mem_each ht hd n hn))
  simp only [DataW.weights, hs] at hw
  simp only [DataW.weightsEach, List.map_cons, List.map_nil, t0, t1, e0, e1, DataW.weights, List.mem_append, List.mem_cons, List.mem_nil_iff, or_false] at hw
  exact ⟨x, y, rfl, hw _ (by simp), hw _ (by simp)⟩
end
end Go.Proofs.YtmapinediglimaaDoor
