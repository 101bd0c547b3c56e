/-
  Nodes in a row of memory; the maps of places and of names, by the program. Condition: names within the reach.
-/
import Derived.Test.YtoijpjmkjhoiaaaFnFan
import Derived.Test.YtoijpjmkjhoiaaaFnRole
import Derived.StringKeys
import Derived.WalkMore
import Derived.Maps.OwnSet
import Derived.Maps.StringElems
import Derived.Maps.OwnOps
namespace Go.Proofs.Ytoijpjmkjhoiaaa
set_option linter.unusedVariables false
set_option linter.unusedSimpArgs false
open Go.RowKit Go.MapKept Go.Maps Go.WideMaps Go.ChangeMaps
open Go.WideElems (rg)
theorem lawK : Keyed Try.prog 9 := string_keyed Try.underlying9
noncomputable def RI : Value → Option (DataW Unit × List MemPlace) := plainElem Try.prog 3
noncomputable def RB : Value → Option (DataW Unit × List MemPlace) := plainElem Try.prog 4
theorem zeroIn (w : World) : (zeroValue 3).run Try.prog w = .ok (.int .i64 0) w := by kernel_rfl
theorem zeroBo (w : World) : (zeroValue 4).run Try.prog w = .ok (.bool false) w := by kernel_rfl
theorem ri_int {a : Int} (h : (Lit.int .i64 a).wf = true) : RI (.int .i64 a) = some (.lit (.int .i64 a), []) := plainElem_int Try.underlying3 h
theorem rb_bool (b : Bool) : RB (.bool b) = some (.lit (.bool b), []) := plainElem_bool Try.underlying4 b
theorem wf_nat {n : Nat} (h : n ≤ 100000) : (Lit.int .i64 (n : Int)).wf = true := by
  have h1 : IntKind.i64.min = -9223372036854775808 := rfl
  have h2 : IntKind.i64.max = 9223372036854775807 := rfl
  simp [Lit.wf, h1, h2]
  omega
theorem key_tx {s : Tx} (h : s.length ≤ maxLen) : keyOf Try.prog 9 (.string ⟨s.toArray⟩) = some (.string s) := by
  have := keyOf_string_mk Try.underlying9 (s := ⟨s.toArray⟩) (by simpa [ByteArray.size] using h)
  simpa using this
theorem isKey (s : Tx) : WideAt.IsKeyLit (.string s) := trivial
/-- block b maps each name to the first node that bears it -/
def AtM (w : World) (b n : Nat) (l : List Nd) : Prop := ∃ D, w.ownsMap Try.prog 9 RI b n D ∧ ∀ x : Tx, Maps.has D (.string x) = (idxN l x).isSome ∧ D.atKey (.string x) (.lit (.int .i64 0)) = .lit (.int .i64 (((idxN l x).getD 0 : Nat) : Int))
/-- block b holds these names -/
def BoM (w : World) (b n : Nat) (T : List Tx) : Prop := ∃ D, w.ownsMap Try.prog 9 RB b n D ∧ ∀ x : Tx, Maps.has D (.string x) = T.contains x ∧ D.atKey (.string x) (.lit (.bool false)) = .lit (.bool (T.contains x))
theorem AtM.kept {w w' : World} {b n : Nat} {l : List Nd} {row : Option Nat} (h : AtM w b n l) (hg : w.grownBy w' row) (hne : some b ≠ row) : AtM w' b n l := by
  obtain ⟨D, h1, h2⟩ := h; exact ⟨D, h1.kept hg hne, h2⟩
theorem BoM.kept {w w' : World} {b n : Nat} {T : List Tx} {row : Option Nat} (h : BoM w b n T) (hg : w.grownBy w' row) (hne : some b ≠ row) : BoM w' b n T := by
  obtain ⟨D, h1, h2⟩ := h; exact ⟨D, h1.kept hg hne, h2⟩
theorem AtM.lt {w : World} {b n : Nat} {l : List Nd} (h : AtM w b n l) : b < w.heap.size := by obtain ⟨D, h1, -⟩ := h; exact h1.lt
theorem BoM.lt {w : World} {b n : Nat} {T : List Tx} (h : BoM w b n T) : b < w.heap.size := by obtain ⟨D, h1, -⟩ := h; exact h1.lt
set_option maxRecDepth 100000 in
theorem AtM.look {w : World} {b n : Nat} {l : List Nd} (h : AtM w b n l) {c : Tx} (hc : c.length ≤ maxLen) :
    (Instr.lookup 54 (.map (some b)) (.string ⟨c.toArray⟩) true).run Try.prog w = .ok (.tuple #[.int .i64 (((idxN l c).getD 0 : Nat) : Int), .bool (idxN l c).isSome]) w := by
  obtain ⟨D, h1, h2⟩ := h
  obtain ⟨v, ps, hrun, hv⟩ := World.ownsMap.look_ok (t := 54) (e := 3) h1 lawK Try.underlying54 (zeroIn w) (zd := .lit (.int .i64 0)) (ri_int (by decide)) (key_tx hc)
  obtain ⟨e1, e2⟩ := h2 c
  rw [e2] at hv
  obtain ⟨a, rfl, ha, -⟩ := plainElem_int_inv Try.underlying3 hv
  simp only [Prod.mk.injEq, DataW.lit.injEq, Lit.int.injEq, true_and] at ha
  rw [hrun, e1, ha.1]
set_option maxRecDepth 100000 in
theorem BoM.look1 {w : World} {b n : Nat} {T : List Tx} (h : BoM w b n T) {c : Tx} (hc : c.length ≤ maxLen) :
    (Instr.lookup 56 (.map (some b)) (.string ⟨c.toArray⟩) false).run Try.prog w = .ok (.bool (T.contains c)) w := by
  obtain ⟨D, h1, h2⟩ := h
  obtain ⟨v, ps, hrun, hv⟩ := World.ownsMap.lookup (t := 56) (e := 4) h1 lawK Try.underlying56 (zeroBo w) (zd := .lit (.bool false)) (rb_bool false) (key_tx hc)
  obtain ⟨e1, e2⟩ := h2 c
  rw [e2] at hv
  have hv' : v = .bool (T.contains c) := by
    unfold RB plainElem at hv
    rw [Try.underlying4] at hv
    cases v <;> simp at hv
    rw [hv.1]
    simp
  rw [hrun, hv']
theorem AtM.made (w : World) : AtM (w.alloc (.map #[] 0)) w.heap.size 0 [] := ⟨.map [], World.ownsMap_made w _ _ _, fun _ => ⟨rfl, rfl⟩⟩
theorem BoM.made (w : World) : BoM (w.alloc (.map #[] 0)) w.heap.size 0 [] := ⟨.map [], World.ownsMap_made w _ _ _, fun _ => ⟨rfl, rfl⟩⟩
theorem lit_ne {x y : Tx} (h : x ≠ y) : Lit.string x ≠ Lit.string y := fun e => h (by injection e)
theorem AtM.put {w' : World} {b n k : Nat} {l l' : List Nd} {c : Tx} {D : DataW Unit} (h : w'.ownsMap Try.prog 9 RI b (n + 1) (D.put (.string c) (.lit (.int .i64 (k : Int))))) (hm : IsMap D)
    (h2 : ∀ x : Tx, Maps.has D (.string x) = (idxN l x).isSome ∧ D.atKey (.string x) (.lit (.int .i64 0)) = .lit (.int .i64 (((idxN l x).getD 0 : Nat) : Int)))
    (hl : ∀ x, idxN l' x = if x = c then some k else idxN l x) : AtM w' b (n + 1) l' := by
  refine ⟨_, h, fun x => ?_⟩
  rw [hl]
  by_cases e : x = c
  · subst e
    rw [if_pos rfl, has_put_same hm (isKey _), atKey_put_same hm (isKey _)]
    exact ⟨rfl, rfl⟩
  · rw [if_neg e, has_put_other (lit_ne e), atKey_put_other (lit_ne e)]
    exact h2 x
theorem BoM.put {w' : World} {b n : Nat} {T : List Tx} {c : Tx} {D : DataW Unit} (h : w'.ownsMap Try.prog 9 RB b (n + 1) (D.put (.string c) (.lit (.bool true)))) (hm : IsMap D)
    (h2 : ∀ x : Tx, Maps.has D (.string x) = T.contains x ∧ D.atKey (.string x) (.lit (.bool false)) = .lit (.bool (T.contains x))) : BoM w' b (n + 1) (c :: T) := by
  refine ⟨_, h, fun x => ?_⟩
  by_cases e : x = c
  · subst e
    rw [has_put_same hm (isKey _), atKey_put_same hm (isKey _)]
    simp
  · rw [has_put_other (lit_ne e), atKey_put_other (lit_ne e), (h2 x).1, (h2 x).2]
    have hx : (c :: T).contains x = T.contains x := by
      rw [Bool.eq_iff_iff]
      simp [e]
    rw [hx]
    exact ⟨rfl, rfl⟩
/-- a row of nodes -/
def NdS (w : World) (v : Value) (l : List Nd) : Prop :=
  ∃ ptr cap, v = .slice ptr l.length cap ∧ l.length ≤ cap ∧ cap ≤ maxLen ∧ (0 < l.length → ∃ b o, ptr = some ⟨b, o, none⟩ ∧ b < w.heap.size ∧
    ∀ i (h : i < l.length), ∃ afv sbv itv, (∀ j u, (ndC (l[i]'h) afv sbv itv)[j]? = some u → w.cell? ⟨b, o + i * 8 + j, none⟩ = some u) ∧ AfS w afv (l[i]'h).af ∧ SuS w sbv (l[i]'h).sb ∧ ∃ p n c, itv = .slice p n c)
theorem NdS.below {w w' : World} {v : Value} {l : List Nd} (h : NdS w v l) (hb : Below w.heap.size w w') : NdS w' v l := by
  obtain ⟨ptr, cap, h1, h2, h2', h3⟩ := h
  refine ⟨ptr, cap, h1, h2, h2', fun h0 => ?_⟩
  obtain ⟨b, o, h4, h5, h6⟩ := h3 h0
  refine ⟨b, o, h4, Nat.lt_of_lt_of_le h5 hb.size, fun i hi => ?_⟩
  obtain ⟨a, s, t, hc, ha, hs, ht⟩ := h6 i hi
  exact ⟨a, s, t, fun j u hu => (hb.cell (p := ⟨b, _, none⟩) h5).trans (hc j u hu), ha.below hb, hs.below hb, ht⟩
/-- a node within the reach -/
def Nd.small (n : Nd) : Prop := n.nm.length ≤ 140737488351232 ∧ n.pa.length ≤ 140737488351232 ∧ n.af.length ≤ 1000 ∧ n.sb.length ≤ 1000 ∧ ∀ s ∈ n.sb, s.1.length ≤ 140737488351232
end Go.Proofs.Ytoijpjmkjhoiaaa
