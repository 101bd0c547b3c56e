/-
  What waits is taken as a text (piece); a closing of a telling (tell). Condition: the parser lies at B.
-/
import Derived.Test.YtjpdadibeocpfaaDoorPrMem
namespace Go.Proofs.YtjpdadibeocpfaaDoor
set_option linter.unusedVariables false
set_option linter.unusedSimpArgs false
open Go.RowKit Go.MapKept Go.Proofs
variable {K : Nat → Prop}
set_option maxRecDepth 100000 in
set_option maxHeartbeats 2000000 in
theorem piece_any (n0 B : Nat) (S : Ps) (w : World) (hP : PsAt K n0 B w S) :
    Calls Tryd.prog 36 #[.pointer (some ⟨B, 0, none⟩)] w fun e w' => e = .returned (.string ⟨S.w.toArray⟩) ∧ w' = w.setCell ⟨B, 0, none⟩ (.slice none 0 0) ∧ PsAt K n0 B w' ⟨[], S.q, S.op, S.rt⟩ := by
  obtain ⟨hBn, wv, ov, an, hobj, hOw, hOo⟩ := hP
  obtain ⟨c0, c1, c2, c3, c4, c5, hfz, hBl⟩ := pr_cells hobj
  have hconv := own_back hOw
  replace hobj := Lib.hid hobj
  replace hOw := Lib.hid hOw
  replace hOo := Lib.hid hOo
  go_enter Tryd.func36, Tryd.ntmps36
  go_wp2
  go_ret
  refine ⟨rfl, rfl, hBn, .slice none 0 0, ov, an, obj_set hobj.out _, World.ownsRow_nil _ _ _ _, owns_grown hOo.out.1 (Nat.le_refl _) hBn (grown_set _ (grown_of (Below.refl _ _))), fun r hr => by cases hr⟩
/-- the tokens told so far, in the variable at O -/
def OutAt (n0 O : Nat) (w : World) (l : List Tk) : Prop := O < n0 ∧ ∃ v, w.heap[O]? = some (.cells #[v] 25) ∧ TkO n0 w v l
/-- what a byte may turn: the parser, the tokens' variable, what lies from n0 on -/
structure Step2 (n0 B O : Nat) (w w' : World) : Prop where
  os : w'.os = w.os
  tape : w'.tape = w.tape
  output : w'.output = w.output
  size : w.heap.size ≤ w'.heap.size
  block : ∀ k, k < n0 → k ≠ B → k ≠ O → k < w.heap.size → w'.heap[k]? = w.heap[k]?
theorem Step2.refl (n0 B O : Nat) (w : World) : Step2 n0 B O w w := ⟨rfl, rfl, rfl, Nat.le_refl _, fun _ _ _ _ _ => rfl⟩
theorem Step2.trans {n0 B O : Nat} {w w1 w2 : World} (h : Step2 n0 B O w w1) (k : Step2 n0 B O w1 w2) : Step2 n0 B O w w2 :=
  ⟨k.os.trans h.os, k.tape.trans h.tape, k.output.trans h.output, Nat.le_trans h.size k.size, fun j a b c d => (k.block j a b c (Nat.lt_of_lt_of_le d h.size)).trans (h.block j a b c d)⟩
theorem Step2.below {n0 B O : Nat} {w w' : World} (h : Below w.heap.size w w') : Step2 n0 B O w w' := ⟨h.os, h.tape, h.output, h.size, fun k _ _ _ hk => h.block k hk⟩
theorem Step2.setB {n0 B O i : Nat} {w : World} (v : Value) : Step2 n0 B O w (w.setCell ⟨B, i, none⟩ v) := ⟨rfl, rfl, rfl, by rw [World.size_setCell]; exact Nat.le_refl _, fun k _ hk _ _ => Below.heap_setCell _ _ _ _ hk⟩
theorem Step2.setO {n0 B O i : Nat} {w : World} (v : Value) : Step2 n0 B O w (w.setCell ⟨O, i, none⟩ v) := ⟨rfl, rfl, rfl, by rw [World.size_setCell]; exact Nat.le_refl _, fun k _ _ hk _ => Below.heap_setCell _ _ _ _ hk⟩
theorem Step2.grown {n0 B O : Nat} {w w' : World} {row : Option Nat} (h : w.grownBy w' row) (hr : ∀ r, row = some r → n0 ≤ r) : Step2 n0 B O w w' := ⟨h.os, h.tape, h.output, h.size, fun k hk _ _ hs => h.block k hs (fun e => by have := hr k e.symm; omega)⟩
/-- a row of another type is another block -/
theorem row_ne {w : World} {b O size n : Nat} {e : TypeId} {v x : Value} {xs : List Value} (h : w.ownsRow b e size v n xs) (hob : w.heap[O]? = some (.cells #[x] 25)) (he : 25 ≠ e) (r : Nat) (hr : v.ownBlock = some r) : O ≠ r := by
  rcases h.2 with ⟨rfl, -⟩ | ⟨g, cap, cur, rfl, -, hg, -⟩
  · cases hr
  · rintro rfl
    have e1 : g = O := by injection hr
    subst e1
    rw [hob] at hg
    injection hg with hg
    injection hg with _ h _
    exact he h
theorem PsAt.setO {n0 B O i : Nat} {w : World} {S : Ps} {x : Value} (h : PsAt K n0 B w S) (hob : w.heap[O]? = some (.cells #[x] 25)) (hne : O ≠ B) (v : Value) : PsAt K n0 B (w.setCell ⟨O, i, none⟩ v) S := by
  obtain ⟨h1, wv, ov, an, h2, h3, h4⟩ := h
  have hg : w.grownBy (w.setCell ⟨O, i, none⟩ v) (some O) := ⟨rfl, rfl, rfl, by rw [World.size_setCell]; exact Nat.le_refl _, fun k _ hk => Below.heap_setCell _ _ _ _ (fun e => hk (by rw [e]))⟩
  exact ⟨h1, wv, ov, an, (Below.heap_setCell _ _ _ _ (fun e => hne e.symm)).trans h2, owns_row_keep h3 hg (fun r hr e => row_ne h3 hob (by decide) r hr (by injection e)), owns_row_keep h4.1 hg (fun r hr e => row_ne h4.1 hob (by decide) r hr (by injection e)), h4.2⟩
theorem OutAt.keep {n0 O : Nat} {w w' : World} {l : List Tk} (h : OutAt n0 O w l) (hs : w.heap.size ≤ w'.heap.size) (hb : ∀ k, k < w.heap.size → k = O ∨ n0 ≤ k → w'.heap[k]? = w.heap[k]?) : OutAt n0 O w' l := by
  obtain ⟨h1, v, h2, h3⟩ := h
  exact ⟨h1, v, (hb O (Array.getElem?_eq_some_iff.1 h2).1 (.inl rfl)).trans h2, h3.keep hs fun b h4 h5 => hb b h5 (.inr h4)⟩
theorem wpList_app_runP {P : Program} (w w' : World) {ops : Array Oper} {rest : List Oper} {o : Oper} {a : Act} {Q : Exit → Act → World → Prop} (hgd : o.guard = none) (s x : Operand) (t : TypeId)
    (ho : o.op = .call { callee := .builtin .append, args := #[s, x], argTypes := #[t, t] }) (v u v' : Value) (hs : a.eval s = v) (hx : a.eval x = u)
    (hrun : (Builtin.append_ #[t, t] o.type #[v, u]).run P w = .ok v' w') (h : wpList P ops Q rest (a.put o.dst v') w') : wpList P ops Q (o :: rest) a w := by
  refine wpList_plain hgd fun K hK => ?_
  unfold Oper.wp execOp
  simp only [ho, resolve, invoke, builtin, Sem.run_bind, Sem.run_pure, Result.andThen_ok, List.map_toArray, List.map_cons, List.map_nil, hs, hx, hrun]
  exact hK _ _ h
theorem tkO_row {n : Nat} {w : World} {v : Value} {l : List Tk} (h : TkO n w v l) (r : Nat) (hr : v.ownBlock = some r) : n ≤ r ∧ r < w.heap.size := by
  obtain ⟨ps, -, o, -⟩ := h
  exact o.lt r hr
set_option maxRecDepth 100000 in
set_option maxHeartbeats 2000000 in
theorem tell_any (n0 n1 B O m : Nat) (S : Ps) (l1 l2 : List Tk) (tv : Value) (w : World) (hP : PsAt K n0 B w S) (hO : OutAt n1 O w l1) (hne : O ≠ B) (hn : n1 ≤ w.heap.size) (h01 : n0 ≤ n1) (h2 : TkO m w tv l2) (hm : n1 ≤ m) (hrow : ∀ v, w.cell? ⟨O, 0, none⟩ = some v → ∀ r, v.ownBlock = some r → r < m) (hlen : l1.length + l2.length ≤ 1000) :
    Calls Tryd.prog 18 #[tv, .pointer (some ⟨O, 0, none⟩)] w fun e w' => e = .returned (.tuple #[]) ∧ PsAt K n0 B w' S ∧ OutAt n1 O w' (l1 ++ l2) ∧ Step2 n1 B O w w' := by
  obtain ⟨hOn, v, hob, hT⟩ := hO
  obtain ⟨xc, xf, xl⟩ := obj_cells hob
  have c0 : w.cell? ⟨O, 0, none⟩ = some v := (xc 0).trans rfl
  have happ := tk_append w n1 m v tv l1 l2 hT h2 hm (hrow v c0) hlen hn
  obtain ⟨v', w5, hrun, hT5, hg5, -⟩ := happ
  obtain ⟨a9, k9, c9, rfl⟩ : ∃ a9 k9 c9, v' = .slice a9 k9 c9 := by
    obtain ⟨ps5, -, o5, -⟩ := hT5
    obtain ⟨a9, c9, h⟩ := owns_val o5
    exact ⟨a9, _, c9, h⟩
  have hnr : ∀ k, k < n1 → some k ≠ v.ownBlock := fun k hk e => by have := (tkO_row hT k e.symm).1; omega
  have hob5 := (hg5.block O xl (hnr O hOn)).trans hob
  obtain ⟨xc5, xf5, xl5⟩ := obj_cells hob5
  have c5 : w5.cell? ⟨O, 0, none⟩ = some v := (xc5 0).trans rfl
  have f5 := xf5 0
  have hP5 := hP.row hT hg5
  have hE : ((w5.setCell ⟨O, 0, none⟩ (.slice a9 k9 c9))).heap[O]? = some (.cells #[(.slice a9 k9 c9)] 25) := obj_set (i := 0) hob5 (.slice a9 k9 c9)
  have hR1 : PsAt K n0 B (w5.setCell ⟨O, 0, none⟩ (.slice a9 k9 c9)) S := hP5.setO hob5 hne (.slice a9 k9 c9)
  have hR2 : OutAt n1 O (w5.setCell ⟨O, 0, none⟩ (.slice a9 k9 c9)) (l1 ++ l2) := ⟨hOn, (.slice a9 k9 c9), hE, hT5.keep (by rw [World.size_setCell]; exact Nat.le_refl _) fun b hb _ => Below.heap_setCell _ _ _ _ (by simp; omega)⟩
  have hR3 : Step2 n1 B O w (w5.setCell ⟨O, 0, none⟩ (.slice a9 k9 c9)) := (Step2.grown hg5 (fun r hr => (tkO_row hT r hr).1)).trans (Step2.setO (.slice a9 k9 c9))
  replace hR1 := Lib.hid hR1
  replace hR2 := Lib.hid hR2
  replace hR3 := Lib.hid hR3
  clear hE hP5 hob5 hob hT5 hg5 hP h2 hT hnr xc5 xf5 xc xf hrow
  go_enter Tryd.func18, Tryd.ntmps18
  go_wp2_with (at_builtin; refine wpList_app_runP _ w5 rfl _ _ 25 rfl v tv (.slice a9 k9 c9) rfl rfl hrun ?_)
  go_end0
  exact ⟨rfl, hR1.out, hR2.out, hR3.out⟩
end Go.Proofs.YtjpdadibeocpfaaDoor
