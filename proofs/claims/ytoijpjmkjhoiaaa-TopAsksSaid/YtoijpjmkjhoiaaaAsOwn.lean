/-
  A node with lists of its own (node.own), by the program. Condition: at most two affiliations and subscriptions; no items.
-/
import Derived.Test.YtoijpjmkjhoiaaaAsRow
import Derived.Test.YtoijpjmkjhoiaaaInv
namespace Go.Proofs.Ytoijpjmkjhoiaaa
set_option linter.unusedVariables false
set_option linter.unusedSimpArgs false
open Go.RowKit Go.MapKept Go.Shelf
theorem dep_own {o : Oper} {L : Nat → Bool} (h : ∀ e ∈ o.after, Region.binds .any e = true → L e.on = true) (k : Nat) (hk : (o.after.any fun e => Region.binds .any e && e.on == k) = true) : L k = true := by
  obtain ⟨e, he, hb⟩ := Array.any_eq_true'.1 hk
  simp only [Bool.and_eq_true, beq_iff_eq] at hb
  have := h e he hb.1
  rwa [hb.2] at this
theorem not_own {ops : Array Oper} {L : Nat → Bool} (h : ∀ j oj, ops[j]? = some oj → L j = true → ∀ e ∈ oj.after, Region.binds .any e = true → L e.on = true) (j k : Nat) (hk : L k = false) (he : ((ops[j]?).any fun o => o.after.any fun e => Region.binds .any e && e.on == k) = true) : L j = false := by
  cases hj : L j with
  | false => rfl
  | true =>
    cases ho : ops[j]? with
    | none => rw [ho] at he; cases he
    | some o =>
      rw [ho] at he
      have := dep_own (h j o ho hj) k he
      rw [hk] at this
      cases this
theorem wanted_own {o : Oper} (h : o.guard = none) (f : Nat → Option Bool) : Region.wanted o f = true := by unfold Region.wanted; rw [h]
theorem Ym.call {P : Program} {K : Value → World → Prop} {r : Result Next} {f : FuncId} {args : Array Value} {w' : World} (hk : Calls P f args w' (fun e w'' => ∃ v, e = .returned v ∧ K v w'')) (h : r = .ok (.enter f args) w') : Ym P K r := by subst h; exact .enter hk
def cOw (B : Nat) (x y : Value) : Nat → Value
  | 0 => .pointer (some ⟨B, 4, none⟩)
  | 1 => x
  | 3 => .pointer (some ⟨B, 5, none⟩)
  | 4 => y
  | 6 => .pointer (some ⟨B, 6, none⟩)
  | 7 => .slice none 0 0
  | 9 => .pointer (some ⟨B, 4, none⟩)
  | 11 => .pointer (some ⟨B, 5, none⟩)
  | 13 => .pointer (some ⟨B, 6, none⟩)
  | _ => undef
def rdOw : List Nat := [0, 1, 3, 4, 6, 7, 9, 11, 13]
def stO (B : Nat) (a b c : Bool) (x y z : Value) (W : World) : World :=
  let V := if a then W.setCell ⟨B, 4, none⟩ x else W
  let V := if b then V.setCell ⟨B, 5, none⟩ y else V
  if c then V.setCell ⟨B, 6, none⟩ z else V
def Ro5 (W0 W' : World) (sb : List (Tx × Bool × Int)) (x2 x5 : Value) : Prop := ∃ m, W0.heap.size ≤ m ∧ W'.ownsRow m 46 3 x5 sb.length (suC sb) ∧ ∀ r, x2.ownBlock = some r → r < m
structure OI (B : Nat) (W0 : World) (x y : Value) (af : List (Tx × Nat)) (sb : List (Tx × Bool × Int)) (P5 : Value → Prop) (L : Nat → Bool) (vs : Nat → Value) (W : World) : Prop where
  rd : ∀ j, L j = true → j ∈ rdOw → vs j = cOw B x y j
  wd : ∃ W', Below W0.heap.size W0 W' ∧ (L 2 = true → W'.ownsRow W0.heap.size 25 2 (vs 2) af.length (afC af)) ∧ (L 5 = true → Ro5 W0 W' sb (vs 2) (vs 5) ∧ P5 (vs 5)) ∧ (L 8 = true → vs 8 = .slice none 0 0) ∧ W = stO B (L 10) (L 12) (L 14) (vs 2) (vs 5) (vs 8) W'
section
variable {B : Nat} {W0 W : World} {x y : Value} {af : List (Tx × Nat)} {sb : List (Tx × Bool × Int)} {P5 : Value → Prop} {L : Nat → Bool} {vs : Nat → Value}
theorem OI.start (h : Below W0.heap.size W0 W) : OI B W0 x y af sb P5 (fun _ => false) vs W :=
  ⟨fun j h => by simp at h, W, h, by simp, by simp, by simp, rfl⟩
theorem OI.read (h : OI B W0 x y af sb P5 L vs W) {i : Nat} (hi : i ∈ rdOw) {v : Value} (hv : v = cOw B x y i) : OI B W0 x y af sb P5 (fun j => if j = i then true else L j) (fun j => if j = i then v else vs j) W := by
  have hne : ∀ j, j ∉ rdOw → j ≠ i := fun j hj e => hj (e ▸ hi)
  refine ⟨fun j hj hm => ?_, ?_⟩
  · by_cases e : j = i
    · subst e; simpa using hv
    · simp only [e, if_false] at hj ⊢
      exact h.rd j hj hm
  · simp only [hne 2 (by decide), hne 5 (by decide), hne 8 (by decide), hne 10 (by decide), hne 12 (by decide), hne 14 (by decide), if_false]
    exact h.wd
theorem OI.other {v : Value} {i : Nat} (h : OI B W0 x y af sb P5 L vs W) (hi : i ∉ rdOw) : ∀ j, (if j = i then true else L j) = true → j ∈ rdOw → (if j = i then v else vs j) = cOw B x y j := fun j hj hm => by
  have e : j ≠ i := fun e => hi (e ▸ hm)
  rw [if_neg e] at hj ⊢
  exact h.rd j hj hm
theorem OI.plain (h : OI B W0 x y af sb P5 L vs W) (h10 : L 10 = false) (h12 : L 12 = false) (h14 : L 14 = false) : Below W0.heap.size W0 W ∧ (L 2 = true → W.ownsRow W0.heap.size 25 2 (vs 2) af.length (afC af)) ∧ (L 5 = true → Ro5 W0 W sb (vs 2) (vs 5) ∧ P5 (vs 5)) ∧ (L 8 = true → vs 8 = .slice none 0 0) := by
  obtain ⟨W', hb, h2, h5, h8, hW⟩ := h.wd
  rw [h10, h12, h14] at hW
  have e : W = W' := hW
  subst e
  exact ⟨hb, h2, h5, h8⟩
theorem owns_kb {w w' : World} {base : Nat} {e : TypeId} {size : Nat} {v : Value} {n : Nat} {xs : List Value} (h : w.ownsRow base e size v n xs) (hb : Below w.heap.size w w') : w'.ownsRow base e size v n xs := by
  refine ⟨h.1, ?_⟩
  rcases h.2 with h2 | ⟨g, cap, cur, h1, h2, h3, h4⟩
  · exact .inl h2
  · exact .inr ⟨g, cap, cur, h1, h2, (hb.block g (Array.getElem?_eq_some_iff.1 h3).1).trans h3, h4⟩
theorem OI.s2 (h : OI B W0 x y af sb P5 L vs W) (n5 : L 5 = false) (h10 : L 10 = false) (h12 : L 12 = false) (h14 : L 14 = false) {v : Value} {w' : World} (ho : w'.ownsRow W.heap.size 25 2 v af.length (afC af)) (hb : Below W.heap.size W w') :
    OI B W0 x y af sb P5 (fun j => if j = 2 then true else L j) (fun j => if j = 2 then v else vs j) w' := by
  obtain ⟨p1, p2, p3, p4⟩ := h.plain h10 h12 h14
  refine ⟨h.other (by decide), w', belowT p1 hb, fun _ => owns_dox ho p1.size, fun h5 => absurd h5 (by simp [n5]), p4, ?_⟩
  show w' = stO B (L 10) (L 12) (L 14) _ _ _ w'
  rw [h10, h12, h14]; rfl
theorem OI.s5 (h : OI B W0 x y af sb P5 L vs W) (h2 : L 2 = true) (h10 : L 10 = false) (h12 : L 12 = false) (h14 : L 14 = false) {v : Value} {w' : World} (ho : w'.ownsRow W.heap.size 46 3 v sb.length (suC sb)) (hp : P5 v) (hb : Below W.heap.size W w') :
    OI B W0 x y af sb P5 (fun j => if j = 5 then true else L j) (fun j => if j = 5 then v else vs j) w' := by
  obtain ⟨p1, p2, p3, p4⟩ := h.plain h10 h12 h14
  refine ⟨h.other (by decide), w', belowT p1 hb, fun h2 => owns_kb (p2 h2) hb, fun _ => ⟨⟨W.heap.size, p1.size, ho, fun r hr => ((p2 h2).lt r hr).2⟩, hp⟩, p4, ?_⟩
  show w' = stO B (L 10) (L 12) (L 14) _ _ _ w'
  rw [h10, h12, h14]; rfl
theorem OI.s8 (h : OI B W0 x y af sb P5 L vs W) (h10 : L 10 = false) (h12 : L 12 = false) (h14 : L 14 = false) :
    OI B W0 x y af sb P5 (fun j => if j = 8 then true else L j) (fun j => if j = 8 then .slice none 0 0 else vs j) W := by
  obtain ⟨p1, p2, p3, p4⟩ := h.plain h10 h12 h14
  refine ⟨h.other (by decide), W, p1, p2, p3, fun _ => rfl, ?_⟩
  show W = stO B (L 10) (L 12) (L 14) _ _ _ W
  rw [h10, h12, h14]; rfl
theorem OI.s10 (h : OI B W0 x y af sb P5 L vs W) (h10 : L 10 = false) (h12 : L 12 = false) (h14 : L 14 = false) (u : Value) :
    OI B W0 x y af sb P5 (fun j => if j = 10 then true else L j) (fun j => if j = 10 then u else vs j) (W.setCell ⟨B, 4, none⟩ (vs 2)) := by
  obtain ⟨p1, p2, p3, p4⟩ := h.plain h10 h12 h14
  refine ⟨h.other (by decide), W, p1, p2, p3, p4, ?_⟩
  show _ = stO B true (L 12) (L 14) _ _ _ W
  rw [h12, h14]; rfl
theorem OI.s12 (h : OI B W0 x y af sb P5 L vs W) (h10 : L 10 = true) (h12 : L 12 = false) (h14 : L 14 = false) (u : Value) :
    OI B W0 x y af sb P5 (fun j => if j = 12 then true else L j) (fun j => if j = 12 then u else vs j) (W.setCell ⟨B, 5, none⟩ (vs 5)) := by
  obtain ⟨W', p1, p2, p3, p4, hW⟩ := h.wd
  rw [h10, h12, h14] at hW
  refine ⟨h.other (by decide), W', p1, p2, p3, p4, ?_⟩
  show _ = stO B (L 10) true (L 14) _ _ _ W'
  rw [h10, h14, hW]; rfl
theorem OI.s14 (h : OI B W0 x y af sb P5 L vs W) (h10 : L 10 = true) (h12 : L 12 = true) (h14 : L 14 = false) (u : Value) :
    OI B W0 x y af sb P5 (fun j => if j = 14 then true else L j) (fun j => if j = 14 then u else vs j) (W.setCell ⟨B, 6, none⟩ (vs 8)) := by
  obtain ⟨W', p1, p2, p3, p4, hW⟩ := h.wd
  rw [h10, h12, h14] at hW
  refine ⟨h.other (by decide), W', p1, p2, p3, p4, ?_⟩
  show _ = stO B (L 10) (L 12) true _ _ _ W'
  rw [h10, h12, hW]; rfl
theorem OI.last (h : OI B W0 x y af sb P5 L vs W) (h2 : L 2 = true) (h5 : L 5 = true) (h8 : L 8 = true) (h10 : L 10 = true) (h12 : L 12 = true) (h14 : L 14 = true) :
    ∃ W', Below W0.heap.size W0 W' ∧ W'.ownsRow W0.heap.size 25 2 (vs 2) af.length (afC af) ∧ (Ro5 W0 W' sb (vs 2) (vs 5) ∧ P5 (vs 5)) ∧ vs 8 = .slice none 0 0 ∧ W = ((W'.setCell ⟨B, 4, none⟩ (vs 2)).setCell ⟨B, 5, none⟩ (vs 5)).setCell ⟨B, 6, none⟩ (vs 8) := by
  obtain ⟨W', p1, p2, p3, p4, hW⟩ := h.wd
  rw [h10, h12, h14] at hW
  exact ⟨W', p1, p2 h2, p3 h5, p4 h8, hW⟩
theorem owns_hx {w w' : World} {base : Nat} {e : TypeId} {size : Nat} {v : Value} {n : Nat} {xs : List Value} (h : w.ownsRow base e size v n xs) (hb : ∀ g, base ≤ g → w'.heap[g]? = w.heap[g]?) : w'.ownsRow base e size v n xs := by
  refine ⟨h.1, ?_⟩
  rcases h.2 with h2 | ⟨g, cap, cur, h1, h2, h3, h4⟩
  · exact .inl h2
  · exact .inr ⟨g, cap, cur, h1, h2, (hb g h2).trans h3, h4⟩
/-- the node's own cells can be written, whatever was -/
theorem OI.cells (h : OI B W0 x y af sb P5 L vs W) (hB : B < W0.heap.size) {cs : Array Value} (h0 : W0.heap[B]? = some (.cells cs 30)) (h8 : cs.size = 8) (k : Nat) (hk : k < 8) : (∃ u, W.cell? ⟨B, k, none⟩ = some u) ∧ W.frozen? ⟨B, k, none⟩ = false ∧ B < W.heap.size := by
  obtain ⟨W', p1, -, -, -, hW⟩ := h.wd
  have hb : W'.heap[B]? = some (.cells cs 30) := (p1.block B hB).trans h0
  have key : ∃ cs' : Array Value, cs'.size = 8 ∧ W.heap[B]? = some (.cells cs' 30) := by
    subst hW
    have st : ∀ (V : World) (i : Nat) (v : Value), (∃ cs' : Array Value, cs'.size = 8 ∧ V.heap[B]? = some (.cells cs' 30)) → ∃ cs' : Array Value, cs'.size = 8 ∧ (V.setCell ⟨B, i, none⟩ v).heap[B]? = some (.cells cs' 30) := fun V i v ⟨c', h1, h2⟩ => ⟨_, by simpa using h1, obj_set h2 v⟩
    unfold stO
    cases L 10 <;> cases L 12 <;> cases L 14
    all_goals simp only [if_true, if_false, Bool.false_eq_true]
    all_goals repeat (first | exact ⟨cs, h8, hb⟩ | apply st)
  obtain ⟨cs', e8, hc⟩ := key
  obtain ⟨c, f, l⟩ := obj_cells hc
  exact ⟨⟨_, (c k).trans (Array.getElem?_eq_getElem (by omega))⟩, f k, l⟩
theorem OI.load (h : OI B W0 x y af sb P5 L vs W) (h10 : L 10 = false) (h12 : L 12 = false) (h14 : L 14 = false) (hB : B < W0.heap.size) (k : Nat) : W.cell? ⟨B, k, none⟩ = W0.cell? ⟨B, k, none⟩ ∧ B < W.heap.size :=
  ⟨(h.plain h10 h12 h14).1.cell (p := ⟨B, k, none⟩) hB, Nat.lt_of_lt_of_le hB (h.plain h10 h12 h14).1.size⟩
end
/-- eight cells of a block are written -/
def put8 (W : World) (b : Nat) (a0 a1 a2 a3 a4 a5 a6 a7 : Value) : World := (((((((W.setCell ⟨b, 0, none⟩ a0).setCell ⟨b, 1, none⟩ a1).setCell ⟨b, 2, none⟩ a2).setCell ⟨b, 3, none⟩ a3).setCell ⟨b, 4, none⟩ a4).setCell ⟨b, 5, none⟩ a5).setCell ⟨b, 6, none⟩ a6).setCell ⟨b, 7, none⟩ a7
theorem put8_other {W : World} {b g : Nat} {a0 a1 a2 a3 a4 a5 a6 a7 : Value} (h : g ≠ b) : (put8 W b a0 a1 a2 a3 a4 a5 a6 a7).heap[g]? = W.heap[g]? := by
  unfold put8
  have st : ∀ (V : World) (i : Nat) (v : Value), (V.setCell ⟨b, i, none⟩ v).heap[g]? = V.heap[g]? := fun V i v => Below.heap_setCell _ _ _ _ h
  simp only [st]
theorem put8_below {w W : World} {b : Nat} {a0 a1 a2 a3 a4 a5 a6 a7 : Value} (h : Below w.heap.size w W) (hb : w.heap.size ≤ b) : Below w.heap.size w (put8 W b a0 a1 a2 a3 a4 a5 a6 a7) := by
  have st : ∀ (V : World) (i : Nat) (v : Value), Below w.heap.size w V → Below w.heap.size w (V.setCell ⟨b, i, none⟩ v) := fun V i v hV => hV.setCell (p := ⟨b, i, none⟩) hb v
  exact st _ _ _ (st _ _ _ (st _ _ _ (st _ _ _ (st _ _ _ (st _ _ _ (st _ _ _ (st _ _ _ h)))))))
theorem put8_obj {W : World} {b : Nat} {x0 x1 x2 x3 x4 x5 x6 x7 a0 a1 a2 a3 a4 a5 a6 a7 : Value} {t : TypeId} (h : W.heap[b]? = some (.cells #[x0, x1, x2, x3, x4, x5, x6, x7] t)) : (put8 W b a0 a1 a2 a3 a4 a5 a6 a7).heap[b]? = some (.cells #[a0, a1, a2, a3, a4, a5, a6, a7] t) := by
  have h0 := obj_set (i := 0) h a0
  simp only [List.setIfInBounds_toArray, List.set_cons_zero, List.set_cons_succ] at h0
  have h1 := obj_set (i := 1) h0 a1
  simp only [List.setIfInBounds_toArray, List.set_cons_zero, List.set_cons_succ] at h1
  have h2 := obj_set (i := 2) h1 a2
  simp only [List.setIfInBounds_toArray, List.set_cons_zero, List.set_cons_succ] at h2
  have h3 := obj_set (i := 3) h2 a3
  simp only [List.setIfInBounds_toArray, List.set_cons_zero, List.set_cons_succ] at h3
  have h4 := obj_set (i := 4) h3 a4
  simp only [List.setIfInBounds_toArray, List.set_cons_zero, List.set_cons_succ] at h4
  have h5 := obj_set (i := 5) h4 a5
  simp only [List.setIfInBounds_toArray, List.set_cons_zero, List.set_cons_succ] at h5
  have h6 := obj_set (i := 6) h5 a6
  simp only [List.setIfInBounds_toArray, List.set_cons_zero, List.set_cons_succ] at h6
  have h7 := obj_set (i := 7) h6 a7
  simp only [List.setIfInBounds_toArray, List.set_cons_zero, List.set_cons_succ] at h7
  exact h7
theorem load8 {W : World} {b : Nat} {nm pa : Tx} {co : Bool} {ac : Nat} {mx : Int} {p1 p2 p3 : Option Addr} {n1 n2 n3 c1 c2 c3 : Nat} {cs : Array Value} (h : W.heap[b]? = some (.cells cs 30)) (hcs : cs = #[.string ⟨nm.toArray⟩, .bool co, .int .u8 ac, .int .i64 mx, .slice p1 n1 c1, .slice p2 n2 c2, .slice p3 n3 c3, .string ⟨pa.toArray⟩]) :
    (loadVar 30 ⟨b, 0, none⟩).run Try.prog W = .ok (.agg #[.string ⟨nm.toArray⟩, .bool co, .int .u8 ac, .int .i64 mx, .slice p1 n1 c1, .slice p2 n2 c2, .slice p3 n3 c3, .string ⟨pa.toArray⟩]) W := by
  subst hcs
  obtain ⟨c, f, l⟩ := obj_cells h
  have y0 := c 0
  have y1 := c 1
  have y2 := c 2
  have y3 := c 3
  have y4 := c 4
  have y5 := c 5
  have y6 := c 6
  have y7 := c 7
  simp only [List.getElem?_toArray, List.getElem?_cons_zero, List.getElem?_cons_succ] at y0 y1 y2 y3 y4 y5 y6 y7
  simp [loadVar, go_sem, y0, y1, y2, y3, y4, y5, y6, y7]
theorem owns_vw {w : World} {base : Nat} {e : TypeId} {size : Nat} {v : Value} {n : Nat} {xs : List Value} (h : w.ownsRow base e size v n xs) : ∃ a c, v = .slice a n c := by
  rcases h.2 with ⟨hv, h0⟩ | ⟨g, cap, cur, hv, _⟩
  · exact ⟨_, _, by rw [hv, h0]⟩
  · exact ⟨_, _, hv⟩
set_option maxRecDepth 100000 in
set_option maxHeartbeats 4000000 in
theorem own_any (nm pa : Tx) (co : Bool) (ac : Nat) (mx : Int) (afv sbv : Value) (af : List (Tx × Nat)) (sb : List (Tx × Bool × Int)) (ba bs : Nat) (w : World) (hA : w.ownsRow ba 25 2 afv af.length (afC af)) (hS : w.ownsRow bs 46 3 sbv sb.length (suC sb)) (ha2 : af.length ≤ 2) (hs2 : sb.length ≤ 2) :
    Calls Try.prog 14 #[.agg #[.string ⟨nm.toArray⟩, .bool co, .int .u8 ac, .int .i64 mx, afv, sbv, .slice none 0 0, .string ⟨pa.toArray⟩]] w fun e w' => ∃ av sv, e = .returned (.agg #[.string ⟨nm.toArray⟩, .bool co, .int .u8 ac, .int .i64 mx, av, sv, .slice none 0 0, .string ⟨pa.toArray⟩]) ∧ w'.ownsRow w.heap.size 25 2 av af.length (afC af) ∧ (∃ m, w.heap.size ≤ m ∧ w'.ownsRow m 46 3 sv sb.length (suC sb) ∧ ∀ r, av.ownBlock = some r → r < m) ∧ Below w.heap.size w w' ∧ (sbv = .slice none 0 0 → sv = .slice none 0 0) := by
  obtain ⟨ap, ac', hav⟩ := owns_vw hA
  obtain ⟨sp, sc', hsv⟩ := owns_vw hS
  subst hav hsv
  have hCA := Lib.hid (fun W hW => cloneAffO_any _ af ba W (owns_kb hA hW) ha2)
  have hCS := Lib.hid (fun W hW => cloneSubO_any _ sb bs W (owns_kb hS hW) hs2)
  have hCI := Lib.hid (fun W => cloneItem_any W)
  clear hA hS
  obtain ⟨N, hN⟩ : ∃ N, N = af.length := ⟨_, rfl⟩
  obtain ⟨M, hM⟩ : ∃ M, M = sb.length := ⟨_, rfl⟩
  rw [← hN, ← hM]
  rw [← hN] at hCA
  rw [← hM] at hCS
  replace hN := Lib.hid hN
  replace hM := Lib.hid hM
  obtain ⟨w2, hw2, ho2, hB2, hb2⟩ : ∃ w2, (w.alloc (.cells #[.string ⟨nm.toArray⟩, .bool co, .int .u8 ac, .int .i64 mx, .slice ap N ac', .slice sp M sc', .slice none 0 0, .string ⟨pa.toArray⟩] 30)).alloc (.cells #[.string ⟨#[]⟩, .bool false, .int .u8 0, .int .i64 0, .slice none 0 0, .slice none 0 0, .slice none 0 0, .string ⟨#[]⟩] 30) = w2 ∧ w2.heap[w.heap.size]? = some (.cells #[.string ⟨nm.toArray⟩, .bool co, .int .u8 ac, .int .i64 mx, .slice ap N ac', .slice sp M sc', .slice none 0 0, .string ⟨pa.toArray⟩] 30) ∧ Below w.heap.size w w2 ∧ w2.heap[w.heap.size + 1]? = some (.cells #[.string ⟨#[]⟩, .bool false, .int .u8 0, .int .i64 0, .slice none 0 0, .slice none 0 0, .slice none 0 0, .string ⟨#[]⟩] 30) :=
    ⟨_, rfl, obj_alloc (heap_alloc w _).1, belowA (below1 w _) _, by have := bare_nd (w.alloc (.cells #[.string ⟨nm.toArray⟩, .bool co, .int .u8 ac, .int .i64 mx, .slice ap N ac', .slice sp M sc', .slice none 0 0, .string ⟨pa.toArray⟩] 30)) (.cells #[.string ⟨#[]⟩, .bool false, .int .u8 0, .int .i64 0, .slice none 0 0, .slice none 0 0, .slice none 0 0, .string ⟨#[]⟩] 30); rwa [World.size_alloc] at this⟩
  have hRet : Hid (∀ (V : World), V.heap[w.heap.size + 1]? = some (.cells #[.string ⟨#[]⟩, .bool false, .int .u8 0, .int .i64 0, .slice none 0 0, .slice none 0 0, .slice none 0 0, .string ⟨#[]⟩] 30) → ∀ (p1 p2 : Option Addr) (n1 n2 d1 d2 : Nat), (loadVar 30 ⟨w.heap.size + 1, 0, none⟩).run Try.prog (put8 V (w.heap.size + 1) (.string ⟨nm.toArray⟩) (.bool co) (.int .u8 ac) (.int .i64 mx) (.slice p1 n1 d1) (.slice p2 n2 d2) (.slice none 0 0) (.string ⟨pa.toArray⟩)) = .ok (.agg #[.string ⟨nm.toArray⟩, .bool co, .int .u8 ac, .int .i64 mx, .slice p1 n1 d1, .slice p2 n2 d2, .slice none 0 0, .string ⟨pa.toArray⟩]) (put8 V (w.heap.size + 1) (.string ⟨nm.toArray⟩) (.bool co) (.int .u8 ac) (.int .i64 mx) (.slice p1 n1 d1) (.slice p2 n2 d2) (.slice none 0 0) (.string ⟨pa.toArray⟩))) := Lib.hid fun V hV p1 p2 n1 n2 d1 d2 => load8 (put8_obj hV) rfl
  go_enter Try.func14, Try.ntmps14
  go_upto_region 1 with (fail)
  obtain ⟨nc, nf, hBl⟩ := obj_cells ho2
  replace ho2 := Lib.hid ho2
  replace hB2 := Lib.hid hB2
  replace hb2 := Lib.hid hb2
  refine wp_region_inv (by kernel_rfl) (by kernel_rfl) (OI w.heap.size w2 (.slice ap N ac') (.slice sp M sc') af sb (fun v => (Value.slice sp M sc') = .slice none 0 0 → v = .slice none 0 0)) (fun _ => undef) (OI.start (Below.refl _ w2).drew) ?_ ?_
  · intro i o L vs W hi hL hdep hcl hI
    have hlt : i < 15 := (by have := (Array.getElem?_eq_some_iff.1 hi).1; simpa using this)
    have hcase : i = 0 ∨ i = 1 ∨ i = 2 ∨ i = 3 ∨ i = 4 ∨ i = 5 ∨ i = 6 ∨ i = 7 ∨ i = 8 ∨ i = 9 ∨ i = 10 ∨ i = 11 ∨ i = 12 ∨ i = 13 ∨ i = 14 := by omega
    clear hw2
    rcases hcase with rfl | rfl | rfl | rfl | rfl | rfl | rfl | rfl | rfl | rfl | rfl | rfl | rfl | rfl | rfl
    · simp only [List.getElem?_toArray, List.getElem?_cons_zero, List.getElem?_cons_succ, Option.some.injEq] at hi
      subst hi
      refine And.intro (wanted_own rfl _) ?_
      simp only [putT, List.getElem?_toArray, List.getElem?_cons_zero, List.getElem?_cons_succ, Option.bind_some, Act.put, List.setIfInBounds_toArray, List.set_cons_zero, List.set_cons_succ]
      refine Ym.val (hI.read (i := 0) (by decide) rfl) ?_
      first | (go_simp; done) | (go_simp; rfl)
    · simp only [List.getElem?_toArray, List.getElem?_cons_zero, List.getElem?_cons_succ, Option.some.injEq] at hi
      subst hi
      refine And.intro (wanted_own rfl _) ?_
      have h0 := hI.rd 0 (dep_own hdep 0 (by kernel_rfl)) (by decide)
      have l10 := not_own hcl 10 1 hL (by kernel_rfl)
      have l12 := not_own hcl 12 10 l10 (by kernel_rfl)
      have l14 := not_own hcl 14 12 l12 (by kernel_rfl)
      obtain ⟨hc, hbw⟩ := hI.load l10 l12 l14 hBl 4
      rw [nc 4] at hc
      simp only [List.getElem?_toArray, List.getElem?_cons_zero, List.getElem?_cons_succ] at hc
      simp only [putT, List.getElem?_toArray, List.getElem?_cons_zero, List.getElem?_cons_succ, Option.bind_some, Act.put, List.setIfInBounds_toArray, List.set_cons_zero, List.set_cons_succ]
      rw [show vs 0 = _ from h0]; simp only [cOw]; refine Ym.val (hI.read (i := 1) (by decide) rfl) ?_
      first | (go_simp; done) | (go_simp; rfl)
    · simp only [List.getElem?_toArray, List.getElem?_cons_zero, List.getElem?_cons_succ, Option.some.injEq] at hi
      subst hi
      refine And.intro (wanted_own rfl _) ?_
      have h1 := hI.rd 1 (dep_own hdep 1 (by kernel_rfl)) (by decide)
      have l5 := not_own hcl 5 2 hL (by kernel_rfl)
      have l10 := not_own hcl 10 2 hL (by kernel_rfl)
      have l12 := not_own hcl 12 10 l10 (by kernel_rfl)
      have l14 := not_own hcl 14 12 l12 (by kernel_rfl)
      simp only [putT, List.getElem?_toArray, List.getElem?_cons_zero, List.getElem?_cons_succ, Option.bind_some, Act.put, List.setIfInBounds_toArray, List.set_cons_zero, List.set_cons_succ]
      rw [show vs 1 = _ from h1]; simp only [cOw]
      refine Ym.call (f := 38) (w' := W) ((hCA.out W (belowT hB2.out (hI.plain l10 l12 l14).1)).mono ?_) ?_
      · rintro e w3 ⟨v, rfl, hO, hb⟩
        exact ⟨v, rfl, hI.s2 l5 l10 l12 l14 (hN.out ▸ hO) hb⟩
      · first | (go_simp; done) | (go_simp; rfl)
    · simp only [List.getElem?_toArray, List.getElem?_cons_zero, List.getElem?_cons_succ, Option.some.injEq] at hi
      subst hi
      refine And.intro (wanted_own rfl _) ?_
      simp only [putT, List.getElem?_toArray, List.getElem?_cons_zero, List.getElem?_cons_succ, Option.bind_some, Act.put, List.setIfInBounds_toArray, List.set_cons_zero, List.set_cons_succ]
      refine Ym.val (hI.read (i := 3) (by decide) rfl) ?_
      first | (go_simp; done) | (go_simp; rfl)
    · simp only [List.getElem?_toArray, List.getElem?_cons_zero, List.getElem?_cons_succ, Option.some.injEq] at hi
      subst hi
      refine And.intro (wanted_own rfl _) ?_
      have h3 := hI.rd 3 (dep_own hdep 3 (by kernel_rfl)) (by decide)
      have l10 := not_own hcl 10 4 hL (by kernel_rfl)
      have l12 := not_own hcl 12 10 l10 (by kernel_rfl)
      have l14 := not_own hcl 14 12 l12 (by kernel_rfl)
      obtain ⟨hc, hbw⟩ := hI.load l10 l12 l14 hBl 5
      rw [nc 5] at hc
      simp only [List.getElem?_toArray, List.getElem?_cons_zero, List.getElem?_cons_succ] at hc
      simp only [putT, List.getElem?_toArray, List.getElem?_cons_zero, List.getElem?_cons_succ, Option.bind_some, Act.put, List.setIfInBounds_toArray, List.set_cons_zero, List.set_cons_succ]
      rw [show vs 3 = _ from h3]; simp only [cOw]; refine Ym.val (hI.read (i := 4) (by decide) rfl) ?_
      first | (go_simp; done) | (go_simp; rfl)
    · simp only [List.getElem?_toArray, List.getElem?_cons_zero, List.getElem?_cons_succ, Option.some.injEq] at hi
      subst hi
      refine And.intro (wanted_own rfl _) ?_
      have h4 := hI.rd 4 (dep_own hdep 4 (by kernel_rfl)) (by decide)
      have d2 := dep_own hdep 2 (by kernel_rfl)
      have l8 := not_own hcl 8 5 hL (by kernel_rfl)
      have l10 := not_own hcl 10 8 l8 (by kernel_rfl)
      have l12 := not_own hcl 12 10 l10 (by kernel_rfl)
      have l14 := not_own hcl 14 12 l12 (by kernel_rfl)
      simp only [putT, List.getElem?_toArray, List.getElem?_cons_zero, List.getElem?_cons_succ, Option.bind_some, Act.put, List.setIfInBounds_toArray, List.set_cons_zero, List.set_cons_succ]
      rw [show vs 4 = _ from h4]; simp only [cOw]
      refine Ym.call (f := 39) (w' := W) ((hCS.out W (belowT hB2.out (hI.plain l10 l12 l14).1)).mono ?_) ?_
      · rintro e w3 ⟨v, rfl, hO, hb, hp⟩
        exact ⟨v, rfl, hI.s5 d2 l10 l12 l14 (hM.out ▸ hO) hp hb⟩
      · first | (go_simp; done) | (go_simp; rfl)
    · simp only [List.getElem?_toArray, List.getElem?_cons_zero, List.getElem?_cons_succ, Option.some.injEq] at hi
      subst hi
      refine And.intro (wanted_own rfl _) ?_
      simp only [putT, List.getElem?_toArray, List.getElem?_cons_zero, List.getElem?_cons_succ, Option.bind_some, Act.put, List.setIfInBounds_toArray, List.set_cons_zero, List.set_cons_succ]
      refine Ym.val (hI.read (i := 6) (by decide) rfl) ?_
      first | (go_simp; done) | (go_simp; rfl)
    · simp only [List.getElem?_toArray, List.getElem?_cons_zero, List.getElem?_cons_succ, Option.some.injEq] at hi
      subst hi
      refine And.intro (wanted_own rfl _) ?_
      have h6 := hI.rd 6 (dep_own hdep 6 (by kernel_rfl)) (by decide)
      have l10 := not_own hcl 10 7 hL (by kernel_rfl)
      have l12 := not_own hcl 12 10 l10 (by kernel_rfl)
      have l14 := not_own hcl 14 12 l12 (by kernel_rfl)
      obtain ⟨hc, hbw⟩ := hI.load l10 l12 l14 hBl 6
      rw [nc 6] at hc
      simp only [List.getElem?_toArray, List.getElem?_cons_zero, List.getElem?_cons_succ] at hc
      simp only [putT, List.getElem?_toArray, List.getElem?_cons_zero, List.getElem?_cons_succ, Option.bind_some, Act.put, List.setIfInBounds_toArray, List.set_cons_zero, List.set_cons_succ]
      rw [show vs 6 = _ from h6]; simp only [cOw]; refine Ym.val (hI.read (i := 7) (by decide) rfl) ?_
      first | (go_simp; done) | (go_simp; rfl)
    · simp only [List.getElem?_toArray, List.getElem?_cons_zero, List.getElem?_cons_succ, Option.some.injEq] at hi
      subst hi
      refine And.intro (wanted_own rfl _) ?_
      have h7 := hI.rd 7 (dep_own hdep 7 (by kernel_rfl)) (by decide)
      have l10 := not_own hcl 10 8 hL (by kernel_rfl)
      have l12 := not_own hcl 12 10 l10 (by kernel_rfl)
      have l14 := not_own hcl 14 12 l12 (by kernel_rfl)
      simp only [putT, List.getElem?_toArray, List.getElem?_cons_zero, List.getElem?_cons_succ, Option.bind_some, Act.put, List.setIfInBounds_toArray, List.set_cons_zero, List.set_cons_succ]
      rw [show vs 7 = _ from h7]; simp only [cOw]
      refine Ym.call (f := 40) (w' := W) ((hCI.out W).mono ?_) ?_
      · rintro e w3 ⟨rfl, rfl⟩
        exact ⟨_, rfl, hI.s8 l10 l12 l14⟩
      · first | (go_simp; done) | (go_simp; rfl)
    · simp only [List.getElem?_toArray, List.getElem?_cons_zero, List.getElem?_cons_succ, Option.some.injEq] at hi
      subst hi
      refine And.intro (wanted_own rfl _) ?_
      simp only [putT, List.getElem?_toArray, List.getElem?_cons_zero, List.getElem?_cons_succ, Option.bind_some, Act.put, List.setIfInBounds_toArray, List.set_cons_zero, List.set_cons_succ]
      refine Ym.val (hI.read (i := 9) (by decide) rfl) ?_
      first | (go_simp; done) | (go_simp; rfl)
    · simp only [List.getElem?_toArray, List.getElem?_cons_zero, List.getElem?_cons_succ, Option.some.injEq] at hi
      subst hi
      refine And.intro (wanted_own rfl _) ?_
      have h9 := hI.rd 9 (dep_own hdep 9 (by kernel_rfl)) (by decide)
      have d2 := dep_own hdep 2 (by kernel_rfl)
      have l12 := not_own hcl 12 10 hL (by kernel_rfl)
      have l14 := not_own hcl 14 12 l12 (by kernel_rfl)
      obtain ⟨a2, c2, e2⟩ := owns_vw ((hI.plain hL l12 l14).2.1 d2)
      obtain ⟨⟨u, hu⟩, hf, hbw⟩ := hI.cells hBl ho2.out rfl 4 (by omega)
      have hX := hI.s10 hL l12 l14 undef
      rw [e2] at hX
      simp only [putT, List.getElem?_toArray, List.getElem?_cons_zero, List.getElem?_cons_succ, Option.bind_some, Act.put, List.setIfInBounds_toArray, List.set_cons_zero, List.set_cons_succ]
      rw [show vs 9 = _ from h9]; simp only [cOw]
      refine Ym.skip hX ?_
      rw [show vs 2 = _ from e2]
      first | (go_simp; done) | (go_simp; rfl)
    · simp only [List.getElem?_toArray, List.getElem?_cons_zero, List.getElem?_cons_succ, Option.some.injEq] at hi
      subst hi
      refine And.intro (wanted_own rfl _) ?_
      simp only [putT, List.getElem?_toArray, List.getElem?_cons_zero, List.getElem?_cons_succ, Option.bind_some, Act.put, List.setIfInBounds_toArray, List.set_cons_zero, List.set_cons_succ]
      refine Ym.val (hI.read (i := 11) (by decide) rfl) ?_
      first | (go_simp; done) | (go_simp; rfl)
    · simp only [List.getElem?_toArray, List.getElem?_cons_zero, List.getElem?_cons_succ, Option.some.injEq] at hi
      subst hi
      refine And.intro (wanted_own rfl _) ?_
      have h11 := hI.rd 11 (dep_own hdep 11 (by kernel_rfl)) (by decide)
      have d5 := dep_own hdep 5 (by kernel_rfl)
      have d10 := dep_own hdep 10 (by kernel_rfl)
      have l14 := not_own hcl 14 12 hL (by kernel_rfl)
      obtain ⟨W9, -, -, h59, -, -⟩ := hI.wd
      obtain ⟨a5, c5, e5⟩ := owns_vw (h59 d5).1.choose_spec.2.1
      obtain ⟨⟨u, hu⟩, hf, hbw⟩ := hI.cells hBl ho2.out rfl 5 (by omega)
      have hX := hI.s12 d10 hL l14 undef
      rw [e5] at hX
      simp only [putT, List.getElem?_toArray, List.getElem?_cons_zero, List.getElem?_cons_succ, Option.bind_some, Act.put, List.setIfInBounds_toArray, List.set_cons_zero, List.set_cons_succ]
      rw [show vs 11 = _ from h11]; simp only [cOw]
      refine Ym.skip hX ?_
      rw [show vs 5 = _ from e5]
      first | (go_simp; done) | (go_simp; rfl)
    · simp only [List.getElem?_toArray, List.getElem?_cons_zero, List.getElem?_cons_succ, Option.some.injEq] at hi
      subst hi
      refine And.intro (wanted_own rfl _) ?_
      simp only [putT, List.getElem?_toArray, List.getElem?_cons_zero, List.getElem?_cons_succ, Option.bind_some, Act.put, List.setIfInBounds_toArray, List.set_cons_zero, List.set_cons_succ]
      refine Ym.val (hI.read (i := 13) (by decide) rfl) ?_
      first | (go_simp; done) | (go_simp; rfl)
    · simp only [List.getElem?_toArray, List.getElem?_cons_zero, List.getElem?_cons_succ, Option.some.injEq] at hi
      subst hi
      refine And.intro (wanted_own rfl _) ?_
      have h13 := hI.rd 13 (dep_own hdep 13 (by kernel_rfl)) (by decide)
      have d8 := dep_own hdep 8 (by kernel_rfl)
      have d12 := dep_own hdep 12 (by kernel_rfl)
      have d10 := dep_own hdep 10 (by kernel_rfl)
      obtain ⟨W9, -, -, -, h89, -⟩ := hI.wd
      have e8 := h89 d8
      obtain ⟨⟨u, hu⟩, hf, hbw⟩ := hI.cells hBl ho2.out rfl 6 (by omega)
      have hX := hI.s14 d10 d12 hL undef
      rw [e8] at hX
      simp only [putT, List.getElem?_toArray, List.getElem?_cons_zero, List.getElem?_cons_succ, Option.bind_some, Act.put, List.setIfInBounds_toArray, List.set_cons_zero, List.set_cons_succ]
      rw [show vs 13 = _ from h13]; simp only [cOw]
      refine Ym.skip hX ?_
      rw [show vs 8 = _ from e8]
      first | (go_simp; done) | (go_simp; rfl)
  · intro vs W hI
    obtain ⟨W', p1, p2, ⟨⟨m5, hm5, p3, pm⟩, p5⟩, p4, hW⟩ := hI.last (by kernel_rfl) (by kernel_rfl) (by kernel_rfl) (by kernel_rfl) (by kernel_rfl) (by kernel_rfl)
    obtain ⟨a2, c2, e2⟩ := owns_vw p2
    obtain ⟨a5, c5, e5⟩ := owns_vw p3
    rw [← hN.out] at e2
    rw [← hM.out] at e5
    rw [p4, e2, e5] at hW
    rw [e2] at p2
    rw [e5] at p3 p5
    replace p5 := Lib.hid p5
    have hsz2 : w.heap.size + 1 < w2.heap.size := (Array.getElem?_eq_some_iff.1 hb2.out).1
    have hoB : W.heap[w.heap.size]? = some (.cells #[.string ⟨nm.toArray⟩, .bool co, .int .u8 ac, .int .i64 mx, .slice a2 N c2, .slice a5 M c5, .slice none 0 0, .string ⟨pa.toArray⟩] 30) := by
      rw [hW]
      exact obj_set (i := 6) (obj_set (i := 5) (obj_set (i := 4) ((p1.block _ hBl).trans ho2.out) _) _) _
    have hoR : W.heap[w.heap.size + 1]? = some (.cells #[.string ⟨#[]⟩, .bool false, .int .u8 0, .int .i64 0, .slice none 0 0, .slice none 0 0, .slice none 0 0, .string ⟨#[]⟩] 30) := by
      rw [hW, Below.heap_setCell _ _ _ _ (by show w.heap.size + 1 ≠ w.heap.size; omega), Below.heap_setCell _ _ _ _ (by show w.heap.size + 1 ≠ w.heap.size; omega), Below.heap_setCell _ _ _ _ (by show w.heap.size + 1 ≠ w.heap.size; omega)]
      exact (p1.block _ hsz2).trans hb2.out
    have hst : ∀ g, w.heap.size < g → W.heap[g]? = W'.heap[g]? := fun g hg => by
      rw [hW, Below.heap_setCell _ _ _ _ (by show g ≠ w.heap.size; omega), Below.heap_setCell _ _ _ _ (by show g ≠ w.heap.size; omega), Below.heap_setCell _ _ _ _ (by show g ≠ w.heap.size; omega)]
    have hszW : W.heap.size = W'.heap.size := by rw [hW]; simp
    have hBW : Below w.heap.size w W := by
      rw [hW]
      exact (((belowT hB2.out p1).setCell (p := ⟨w.heap.size, 4, none⟩) (Nat.le_refl _) _).setCell (p := ⟨w.heap.size, 5, none⟩) (Nat.le_refl _) _).setCell (p := ⟨w.heap.size, 6, none⟩) (Nat.le_refl _) _
    have q2 : W.ownsRow w2.heap.size 25 2 (.slice a2 N c2) af.length (afC af) := owns_hx p2 fun g hg => hst g (by omega)
    have q5 : W.ownsRow m5 46 3 (.slice a5 M c5) sb.length (suC sb) := owns_hx p3 fun g hg => hst g (by omega)
    replace pm := Lib.hid (e2 ▸ pm)
    replace hm5 := Lib.hid hm5
    clear hI hW p1 p2 p3 hst
    obtain ⟨r0, -, rl⟩ := obj_cells hoB
    obtain ⟨z0, zf, zl⟩ := obj_cells hoR
    replace hoB := Lib.hid hoB
    replace hoR := Lib.hid hoR
    replace q2 := Lib.hid q2
    replace q5 := Lib.hid q5
    replace hBW := Lib.hid hBW
    replace hsz2 := Lib.hid hsz2
    clear hw2 nc nf
    have y0 := r0 0
    have y1 := r0 1
    have y2 := r0 2
    have y3 := r0 3
    have y4 := r0 4
    have y5 := r0 5
    have y6 := r0 6
    have y7 := r0 7
    have x0 := z0 0
    have x1 := z0 1
    have x2 := z0 2
    have x3 := z0 3
    have x4 := z0 4
    have x5 := z0 5
    have x6 := z0 6
    have x7 := z0 7
    simp only [List.getElem?_toArray, List.getElem?_cons_zero, List.getElem?_cons_succ] at x0 x1 x2 x3 x4 x5 x6 x7 y0 y1 y2 y3 y4 y5 y6 y7
    clear r0 z0
    simp only [List.size_toArray, List.length_cons, List.length_nil, Nat.zero_add, Nat.reduceAdd, putT, List.getElem?_toArray, List.getElem?_cons_zero, List.getElem?_cons_succ, Option.bind_some, Act.put, List.setIfInBounds_toArray, List.set_cons_zero, List.set_cons_succ]
    go_wp2_with fail
    replace q2 : Hid (W.ownsRow w2.heap.size 25 2 (.slice a2 N c2) N (afC af)) := Lib.hid (by have := q2.out; rwa [← hN.out] at this)
    replace q5 : Hid (W.ownsRow m5 46 3 (.slice a5 M c5) M (suC sb)) := Lib.hid (by have := q5.out; rwa [← hM.out] at this)
    have hfin := hRet.out W hoR.out a2 a5 N M c2 c5
    refine bodyPost_ret (v := .agg #[.string ⟨nm.toArray⟩, .bool co, .int .u8 ac, .int .i64 mx, .slice a2 N c2, .slice a5 M c5, .slice none 0 0, .string ⟨pa.toArray⟩]) (results_cell (ad := ⟨w.heap.size + 1, 0, none⟩) Try.results14 rfl hfin) rfl ⟨_, _, rfl, ?_, ?_, ?_, p5.out⟩
    · exact owns_dox (owns_hx (base := w2.heap.size) q2.out fun g hg => put8_other (b := w.heap.size + 1) (by have := hsz2.out; omega)) (by have := hB2.out.size; exact this)
    · exact ⟨m5, Nat.le_trans hB2.out.size hm5.out, owns_hx (base := m5) q5.out fun g hg => put8_other (b := w.heap.size + 1) (by have := hsz2.out; have := hm5.out; omega), pm.out⟩
    · exact put8_below (b := w.heap.size + 1) hBW.out (by omega)
end Go.Proofs.Ytoijpjmkjhoiaaa
