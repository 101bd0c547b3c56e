/-
  A law for a region that draws its order, by an invariant over the set of the operations done: each operation whose edges are met takes the invariant over the set L to the one over L with it; the values are read in the text's order. Condition: the region's own edges order whoever writes a slot against whoever looks at it (a closed fact, asked of the region).
-/
import Derived.Test.YtjpdadibeocpfaaDoorFloat
namespace Go.Proofs.YtjpdadibeocpfaaDoor
set_option linter.unusedVariables false
set_option linter.unusedSimpArgs false
open Go.RowKit
/-- what a run of an operation comes to: some value, in a world that meets K with it -/
inductive Ym (P : Program) (K : Value → World → Prop) : Result Next → Prop
  | value {v : Value} {w' : World} : K v w' → Ym P K (.ok (.value v) w')
  | skipped {w' : World} : K undef w' → Ym P K (.ok .skip w')
  | enter {f : FuncId} {args : Array Value} {w' : World} : Calls P f args w' (fun e w'' => ∃ v, e = .returned v ∧ K v w'') → Ym P K (.ok (.enter f args) w')
theorem Ym.val {P : Program} {K : Value → World → Prop} {r : Result Next} {v : Value} {w' : World} (hk : K v w') (h : r = .ok (.value v) w') : Ym P K r := by subst h; exact .value hk
theorem Ym.skip {P : Program} {K : Value → World → Prop} {r : Result Next} {w' : World} (hk : K undef w') (h : r = .ok .skip w') : Ym P K r := by subst h; exact .skipped hk
section
variable {P : Program} {ops : Array Oper} {Q : Exit → Act → World → Prop} {a : Act}
theorem ym_step {i : Nat} {o : Oper} {b : Act} {w : World} {K : Act → World → Prop} {KK : Value → World → Prop}
    (hi : ops[i]? = some o) (hw : Region.wanted o (yielded ops b.tmps) = true) (hr : Ym P KK ((execOp b.eval o).run P w)) (hK : ∀ v w', KK v w' → K (b.put o.dst v) w') : wpOp P ops Q i K b w := by
  unfold wpOp
  simp only [hi]
  rw [if_pos hw]
  refine .inl ?_
  unfold Oper.wp
  generalize (execOp b.eval o).run P w = r at *
  cases hr with
  | value h => exact hK _ _ h
  | skipped h => exact hK _ _ h
  | enter h => exact Calls.mono h (fun e w'' ⟨v, he, h⟩ => by subst he; exact hK _ _ h)
/-- a frame looks alike where the slots that an operation looks at are alike -/
theorem looks_same {o : Oper} {b b' : Act} (hsel : ∀ cs c, o.op ≠ .select cs c) (h : ∀ t ∈ o.looksAt ops, b'.tmps[t]? = b.tmps[t]?) :
    execOp b'.eval o = execOp b.eval o ∧ Region.wanted o (yielded ops b'.tmps) = Region.wanted o (yielded ops b.tmps) := by
  refine ⟨execOp_congr o hsel fun x hx => ?_, ?_⟩
  · cases x with
    | tmp t =>
      have := h t (List.mem_append_left _ (List.mem_filterMap.2 ⟨.tmp t, by simpa using hx, rfl⟩))
      simp [Act.eval, this]
    | _ => rfl
  · unfold Region.wanted
    cases hg : o.guard with
    | none => rfl
    | some gw =>
      obtain ⟨g, want⟩ := gw
      have hy : yielded ops b'.tmps g = yielded ops b.tmps g := by
        unfold yielded
        cases ht : (ops[g]?).bind (·.dst) with
        | none => rfl
        | some t =>
          have := h t (List.mem_append_right _ (by simp [hg, ht]))
          simp [this]
      simp only [hy]
theorem actS_vs {vs vs' : Nat → Value} {L : Nat → Bool} : ∀ k, (∀ j, j < k → L j = true → vs j = vs' j) → actS ops vs a L k = actS ops vs' a L k
  | 0, _ => rfl
  | k + 1, h => by
    unfold actS
    rw [actS_vs k (fun j hj => h j (by omega))]
    split
    · rename_i hl; rw [h k (by omega) hl]
    · rfl
/-- an operation at its place in the text: the operations before it are read, the later ones not yet -/
theorem inv_any (hok : floatOk ops = true) {Inv : (Nat → Bool) → (Nat → Value) → World → Prop}
    (hstep : ∀ i o (L : Nat → Bool) vs w, ops[i]? = some o → L i = false → (∀ e ∈ o.after, Region.binds .any e = true → L e.on = true) →
      (∀ j oj, ops[j]? = some oj → L j = true → ∀ e ∈ oj.after, Region.binds .any e = true → L e.on = true) → Inv L vs w →
      Region.wanted o (yielded ops (putT ops vs a i).tmps) = true ∧ Ym P (fun v w' => Inv (fun j => if j = i then true else L j) (fun j => if j = i then v else vs j) w') ((execOp (putT ops vs a i).eval o).run P w))
    (hq : ∀ vs w, Inv (fun j => decide (j < ops.size)) vs w → Q .normal (putT ops vs a ops.size) w) :
    ∀ (fuel : Nat) (L : Array Bool) (vs : Nat → Value) (w : World), L.size = ops.size → closedL ops L → cntF (fun j => L.getD j false) ops.size ≤ fuel → Inv (fun j => L.getD j false) vs w →
      wpAny P .any ops Q fuel L (actS ops vs a (fun j => L.getD j false) ops.size) w := by
  have hend : ∀ (L : Array Bool) (vs : Nat → Value) (w : World), L.size = ops.size → (∀ i, i < ops.size → L.getD i false = true) → Inv (fun j => L.getD j false) vs w → Q .normal (actS ops vs a (fun j => L.getD j false) ops.size) w := fun L vs w hs h hS => by
    have e : (fun j => L.getD j false) = (fun j => decide (j < ops.size)) := by
      funext j
      by_cases hj : j < ops.size
      · rw [h j hj]; simp [hj]
      · simp [hs, hj]
    rw [e] at hS ⊢
    have := hq vs w hS
    rwa [actS_lt, show min ops.size ops.size = ops.size by omega]
  intro fuel
  induction fuel with
  | zero =>
    intro L vs w hs hc hn hS
    have hall := cntF_zero _ (Nat.le_zero.1 hn)
    refine ⟨?_, hend L vs w hs hall hS⟩
    cases hr : Region.ready .any ops L with
    | nil => rfl
    | cons i r =>
      have hi : i ∈ Region.ready .any ops L := by rw [hr]; simp
      obtain ⟨h0, o, ho, -⟩ := mem_ready.1 hi
      have hlt : i < ops.size := (Array.getElem?_eq_some_iff.1 ho).1
      have := hall i hlt
      simp [hs, hlt] at h0 this
      rw [h0] at this
      cases this
  | succ fuel ih =>
    intro L vs w hs hc hn hS
    refine ⟨fun hr => hend L vs w hs (ready_none hok hr hs) hS, fun i hi => ?_⟩
    obtain ⟨h0, o, ho, hafter⟩ := mem_ready.1 hi
    have hlt : i < ops.size := (Array.getElem?_eq_some_iff.1 ho).1
    have hLi : L.getD i false = false := by simpa [hs, hlt] using h0
    obtain ⟨hw, hy⟩ := hstep i o (fun j => L.getD j false) vs w ho hLi hafter (fun j oj hoj hj => hc j oj hoj hj) hS
    obtain ⟨he, hw'⟩ := looks_same (ops := ops) (o := o) (b := putT ops vs a i) (b' := actS ops vs a (fun j => L.getD j false) ops.size) (floatOk_sel hok ho) (fun t ht => by
      rw [show putT ops vs a i = actS ops vs a (fun j => decide (j < i)) ops.size by rw [actS_lt, show min i ops.size = i by omega]]
      refine actS_slot _ (fun j hj hdj => ?_)
      by_cases hij : i = j
      · subst hij; rw [hLi]; simp
      · rcases (floatOk_spec hok ho hdj hij).2 ht with ⟨h1, e, he, hb, hon⟩ | ⟨h1, oj, hoj, e, he, hb, hon⟩
        · rw [← hon, hafter e he hb]
          rw [hon]; simp [h1]
        · have : L.getD j false = false := by
            cases hl : L.getD j false with
            | false => rfl
            | true =>
              have := hc j oj hoj hl e he hb
              rw [hon, hLi] at this
              cases this
          rw [this]
          simp; omega)
    rw [← he] at hy
    rw [← hw'] at hw
    have hset : ∀ j, (L.setIfInBounds i true).getD j false = if j = i then true else L.getD j false := fun j => by
      by_cases e : j = i
      · subst e; simp [hs, hlt]
      · rw [if_neg e, getD_set_ne false (fun e' => e e'.symm)]
    refine ym_step ho hw hy (fun v w' hS' => ?_)
    have hvs : actS ops vs a (fun j => L.getD j false) ops.size = actS ops (fun j => if j = i then v else vs j) a (fun j => L.getD j false) ops.size :=
      actS_vs _ (fun j _ hj => by
        by_cases e : j = i
        · subst e; have hj2 : L.getD j false = true := hj; rw [hLi] at hj2; cases hj2
        · simp [e])
    have hact : (actS ops (fun j => if j = i then v else vs j) a (fun j => L.getD j false) ops.size).put o.dst v = actS ops (fun j => if j = i then v else vs j) a (fun j => (L.setIfInBounds i true).getD j false) ops.size := by
      have := actS_put (vs := fun j => if j = i then v else vs j) (a := a) hok ho (L := fun j => L.getD j false) (M := fun j => (L.setIfInBounds i true).getD j false) (by exact hLi) (by simp [hset]) (fun j hj => by simp [hset, hj]) _ hlt
      simpa using this
    rw [hvs, hact]
    refine ih (L.setIfInBounds i true) _ w' (by simpa using hs) ?_ ?_ (by
      have e : (fun j => (L.setIfInBounds i true).getD j false) = (fun j => if j = i then true else L.getD j false) := funext hset
      rw [e]; exact hS')
    · intro j oj hoj hj e he hb
      rw [hset] at hj ⊢
      split
      · rfl
      · by_cases e' : j = i
        · subst e'
          rw [hoj] at ho
          cases ho
          exact hafter e he hb
        · rw [if_neg e'] at hj
          exact hc j oj hoj hj e he hb
    · have := cntF_set (L := fun j => L.getD j false) (M := fun j => (L.setIfInBounds i true).getD j false) (i := i) hLi (by simp [hset]) (fun j hj => by simp [hset, hj]) ops.size hlt
      omega
/-- THE LAW -/
theorem wp_region_inv {id : Nat} {w : World} (hm : P.follows .mixedOrders = true) (hok : floatOk ops = true) (Inv : (Nat → Bool) → (Nat → Value) → World → Prop) (vs : Nat → Value) (hS : Inv (fun _ => false) vs w.drew)
    (hstep : ∀ i o (L : Nat → Bool) vs w, ops[i]? = some o → L i = false → (∀ e ∈ o.after, Region.binds .any e = true → L e.on = true) →
      (∀ j oj, ops[j]? = some oj → L j = true → ∀ e ∈ oj.after, Region.binds .any e = true → L e.on = true) → Inv L vs w →
      Region.wanted o (yielded ops (putT ops vs a i).tmps) = true ∧ Ym P (fun v w' => Inv (fun j => if j = i then true else L j) (fun j => if j = i then v else vs j) w') ((execOp (putT ops vs a i).eval o).run P w))
    (hq : ∀ vs w, Inv (fun j => decide (j < ops.size)) vs w → Q .normal (putT ops vs a ops.size) w) : (Code.region id ops true).wp P Q a w := by
  refine wp_region_any hm ?_
  have e0 : (fun j => (Array.replicate ops.size false).getD j false) = (fun _ => false) := by
    funext j
    by_cases hk : j < ops.size <;> simp [hk]
  have h4 := inv_any (P := P) (Q := Q) (a := a) hok hstep hq ops.size (Array.replicate ops.size false) vs w.drew (by simp) (by
        intro j oj hoj hj
        exfalso
        have hlt : j < ops.size := (Array.getElem?_eq_some_iff.1 hoj).1
        simp [hlt] at hj) (by
        have : ∀ (M : Nat → Bool) k, cntF M k ≤ k := by
          intro M k
          induction k with
          | zero => simp [cntF]
          | succ k ih => unfold cntF; split <;> omega
        exact this _ _) (by rw [e0]; exact hS)
  have e : actS ops vs a (fun j => (Array.replicate ops.size false).getD j false) ops.size = a := by
    rw [e0]
    have : ∀ k, actS ops vs a (fun _ => false) k = a := by
      intro k
      induction k with
      | zero => rfl
      | succ k ih => unfold actS; rw [ih, if_neg (by decide)]
    exact this _
  rw [e] at h4
  exact h4
end
end Go.Proofs.YtjpdadibeocpfaaDoor
