/-
  How the statements' arguments are read: a text; a struct of three texts. Each within the form's own reach.
-/
import Derived.Test.YtjpdadibeocpfaaDoorBase
import Derived.Test.YtjpdadibeocpfaaDoorRows
import Derived.ProofKit
import Derived.OpenShut
import Derived.ShutString
import Derived.SizedLaws
import Derived.Lib.SmallJoins
import Derived.Carry
namespace Go.Proofs.YtjpdadibeocpfaaDoor
set_option linter.unusedVariables false
set_option linter.unusedSimpArgs false
open Go.ChangeShapes Go.WideShapes Go.ChangeAt Go.RowKit Go.Joins Go.Deep
open Go.ChangeMaps (open_string shut_string)
set_option linter.unusedVariables false
theorem own : ownKnob Tryd.prog.godebug = none := by kernel_rfl
theorem laidOut : laidOutB Tryd.prog = true := by kernel_rfl
section
variable {H : Type} {enc : TypeId × Value → H} {P : Program} {W : World} {base b0 : Nat} {spare : Nat → Bool} {held : Bool} {r : Reach}
theorem openS {t : TypeId} {v : Value} {d : DataW H} {p : List MemPlace} (ht : P.underlying t = some .string) (hv : Value.okWide P W r b0 t v) (h : DataW.Trod enc P W base spare held t v d p) :
    ∃ s : List UInt8, v = .string ⟨s.toArray⟩ ∧ d = .lit (.string s) := by
  obtain ⟨s, rfl, rfl, -, -⟩ := open_string ht hv h
  obtain ⟨l, rfl, e⟩ := byte_str s
  exact ⟨l, rfl, by simp⟩
theorem openJ {t tS : TypeId} {f0 f1 f2 : Field} {v : Value} {d : DataW H} {p : List MemPlace} (hs : P.underlying t = some (.struct #[f0, f1, f2])) (hone : oneCellFields P #[f0, f1, f2] = true) (hC : P.cellsOf t = 3) (e0 : f0.type = tS) (e1 : f1.type = tS) (e2 : f2.type = tS) (hS : P.underlying tS = some .string)
    (hv : Value.okWide P W r b0 t v) (h : DataW.Trod enc P W base spare held t v d p) :
    ∃ x y z : List UInt8, v = .agg #[.string ⟨x.toArray⟩, .string ⟨y.toArray⟩, .string ⟨z.toArray⟩] ∧ d = .agg [.lit (.string x), .lit (.string y), .lit (.string z)] := by
  obtain ⟨c0, c1, c2, y0, y1, y2, n, rfl, rfl, -, h0, h1, h2⟩ := open_agg3 hs hone hC hv h
  rw [e0] at h0
  rw [e1] at h1
  rw [e2] at h2
  obtain ⟨s0, k0, rfl, -⟩ := DataW.trod_string hS h0
  obtain ⟨s1, k1, rfl, -⟩ := DataW.trod_string hS h1
  obtain ⟨s2, k2, rfl, -⟩ := DataW.trod_string hS h2
  obtain ⟨l0, rfl, -⟩ := byte_str s0
  obtain ⟨l1, rfl, -⟩ := byte_str s1
  obtain ⟨l2, rfl, -⟩ := byte_str s2
  simp at k0 k1 k2
  subst k0 k1 k2
  exact ⟨l0, l1, l2, rfl, by simp⟩
theorem reachS {t : TypeId} {ts : List TypeId} {ds : List (DataW H)} {j : Nat} {s : List UInt8} (hsz : (DataW.weightsEach P ts ds).all (· ≤ reachBytes) = true) (ht : ts[j]? = some t) (hd : ds[j]? = some (.lit (.string s))) : s.length ≤ 140737488351232 := by
  simpa [reachBytes] using sized_string hsz ht hd
theorem reachJ {t : TypeId} {ts : List TypeId} {ds : List (DataW H)} {j : Nat} {fs : Array Field} {x y z : List UInt8} (hsz : (DataW.weightsEach P ts ds).all (· ≤ reachBytes) = true) (ht : ts[j]? = some t) (hd : ds[j]? = some (.agg [.lit (.string x), .lit (.string y), .lit (.string z)])) (hs : P.underlying t = some (.struct fs)) (hf : fs.size = 3) :
    x.length ≤ 140737488351232 ∧ y.length ≤ 140737488351232 ∧ z.length ≤ 140737488351232 := by
  obtain ⟨l⟩ := fs
  match l, hf with
  | [f0, f1, f2], _ =>
    have hw : ∀ n, n ∈ [x.length, y.length, z.length] → n ≤ reachBytes := fun n hn => by
      have := List.all_eq_true.1 hsz _ (DataW.weights_mem_each ht hd n (by simp [DataW.weights, DataW.weightsEach, hs]; simpa using hn))
      simpa using this
    exact ⟨by simpa [reachBytes] using hw x.length (by simp), by simpa [reachBytes] using hw y.length (by simp), by simpa [reachBytes] using hw z.length (by simp)⟩
end
end Go.Proofs.YtjpdadibeocpfaaDoor
