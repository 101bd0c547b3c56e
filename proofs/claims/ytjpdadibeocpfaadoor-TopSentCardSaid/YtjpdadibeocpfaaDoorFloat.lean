/-
  A law for a region that draws its order: where each operation hands back one fixed value in whatever world that meets S, and leaves a world that meets S, the order of the text is as good as any. Condition: the region's own edges order whoever writes a slot against whoever looks at it (a closed fact, asked of the region).
-/
import Derived.Orders
import Derived.WalkKit
import Derived.Deep.DrawnRows
namespace Go.Proofs.YtjpdadibeocpfaaDoor
set_option linter.unusedVariables false
set_option linter.unusedSimpArgs false
open Go.RowKit
/-- what a run of an operation comes to: the value v, in a world that meets S -/
def Yv (P : Program) (v : Value) (S : World → Prop) : Result Next → Prop
  | .ok (.value v') w' => v' = v ∧ S w'
  | .ok .skip w' => v = undef ∧ S w'
  | .ok (.enter f args) w' => Calls P f args w' (fun e w'' => e = .returned v ∧ S w'')
  | .ok (.row r args) w' => Rows P r args w' (fun v' w'' => v' = v ∧ S w'')
  | _ => False
def Det (P : Program) (ops : Array Oper) (S : World → Prop) (o : Oper) (v : Value) (a : Act) : Prop :=
  (Region.wanted o (yielded ops a.tmps) = true ∧ ∀ w, S w → Yv P v S ((execOp a.eval o).run P w)) ∨ (Region.wanted o (yielded ops a.tmps) = false ∧ v = undef)
theorem Det.step {P : Program} {ops : Array Oper} {S : World → Prop} {Q : Exit → Act → World → Prop} {i : Nat} {o : Oper} {v : Value} {a : Act} {w : World} {K : Act → World → Prop}
    (hi : ops[i]? = some o) (hd : Det P ops S o v a) (hS : S w) (hK : ∀ w', S w' → K (a.put o.dst v) w') : wpOp P ops Q i K a w := by
  unfold wpOp
  simp only [hi]
  rcases hd with ⟨hw, hv⟩ | ⟨hw, rfl⟩
  · rw [if_pos hw]
    refine .inl ?_
    have := hv w hS
    unfold Oper.wp
    generalize (execOp a.eval o).run P w = r at *
    cases r with
    | ok n w' =>
      cases n <;> simp only [Yv] at this
      · obtain ⟨rfl, h⟩ := this; exact hK _ h
      · obtain ⟨rfl, h⟩ := this; exact hK _ h
      · exact Calls.mono this (fun e w'' ⟨he, h⟩ => by subst he; exact hK _ h)
      · exact Rows.mono this (fun v' w'' ⟨he, h⟩ => by subst he; exact hK _ h)
    | halt x w' => exact this.elim
  · rw [if_neg (by rw [hw]; decide)]
    exact hK _ hS

/-- the frame behind the operations of a set, in the text's order -/
def actS (ops : Array Oper) (vs : Nat → Value) (a : Act) (L : Nat → Bool) : Nat → Act
  | 0 => a
  | k + 1 => if L k then (actS ops vs a L k).put ((ops[k]?).bind (·.dst)) (vs k) else actS ops vs a L k
def dstAt (ops : Array Oper) (k : Nat) : Option Tmp := (ops[k]?).bind (·.dst)
theorem put_size (a : Act) (d : Option Tmp) (v : Value) : (a.put d v).tmps.size = a.tmps.size := by cases d <;> simp [Act.put]
theorem actS_size (ops : Array Oper) (vs : Nat → Value) (a : Act) (L : Nat → Bool) : ∀ k, (actS ops vs a L k).tmps.size = a.tmps.size
  | 0 => rfl
  | k + 1 => by
    unfold actS
    split
    · rw [put_size, actS_size ops vs a L k]
    · exact actS_size ops vs a L k
theorem actS_slot {ops : Array Oper} {vs : Nat → Value} {a : Act} {L M : Nat → Bool} {t : Tmp} : ∀ k, (∀ j, j < k → dstAt ops j = some t → L j = M j) → (actS ops vs a L k).tmps[t]? = (actS ops vs a M k).tmps[t]?
  | 0, _ => rfl
  | k + 1, h => by
    have ih := actS_slot (L := L) (M := M) (vs := vs) (a := a) k (fun j hj => h j (by omega))
    have hs := (actS_size ops vs a L k).trans (actS_size ops vs a M k).symm
    by_cases ht : dstAt ops k = some t
    · have e := h k (by omega) ht
      unfold actS
      rw [e]
      split
      · unfold dstAt at ht
        rw [ht]
        simp only [Act.put, Array.getElem?_setIfInBounds, hs, if_true]
      · exact ih
    · have keep : ∀ b : Act, (b.put ((ops[k]?).bind (·.dst)) (vs k)).tmps[t]? = b.tmps[t]? := fun b => by
        unfold dstAt at ht
        cases hd : (ops[k]?).bind (·.dst) with
        | none => rfl
        | some d =>
          rw [hd] at ht
          simp only [Act.put]
          exact Array.getElem?_setIfInBounds_ne (fun e => ht (by rw [e]))
      unfold actS
      split <;> split <;> (try simp only [keep]) <;> exact ih
/-- the edges order each writer of a slot against each that looks at it; no slot has two writers -/
def floatOk (ops : Array Oper) : Bool :=
  (List.range ops.size).all fun i => match ops[i]? with
    | none => true
    | some o => (match o.op with | .select .. => false | _ => true) && o.after.all (fun e => !Region.binds .any e || decide (e.on < i)) && (List.range ops.size).all fun j =>
      match dstAt ops j with
      | none => true
      | some t => i == j || ((o.dst != some t) && (!(o.looksAt ops).contains t ||
          (decide (j < i) && o.after.any (fun e => Region.binds .any e && e.on == j)) ||
          (decide (i < j) && (match ops[j]? with | some oj => oj.after.any (fun e => Region.binds .any e && e.on == i) | none => false))))
def closedL (ops : Array Oper) (L : Array Bool) : Prop := ∀ j oj, ops[j]? = some oj → L.getD j false = true → ∀ e ∈ oj.after, Region.binds .any e = true → L.getD e.on false = true
section
variable {P : Program} {ops : Array Oper} {Q : Exit → Act → World → Prop} {S : World → Prop} {vs : Nat → Value} {a : Act}
theorem floatOk_spec (h : floatOk ops = true) {i j : Nat} {o : Oper} {t : Tmp} (hi : ops[i]? = some o) (hj : dstAt ops j = some t) (hij : i ≠ j) :
    o.dst ≠ some t ∧ (t ∈ o.looksAt ops → (j < i ∧ ∃ e ∈ o.after, Region.binds .any e = true ∧ e.on = j) ∨ (i < j ∧ ∃ oj, ops[j]? = some oj ∧ ∃ e ∈ oj.after, Region.binds .any e = true ∧ e.on = i)) := by
  have hi' : i < ops.size := (Array.getElem?_eq_some_iff.1 hi).1
  have hj' : j < ops.size := by
    rcases Nat.lt_or_ge j ops.size with h' | h'
    · exact h'
    · exfalso
      unfold dstAt at hj
      rw [Array.getElem?_eq_none h'] at hj
      cases hj
  have h1 := List.all_eq_true.1 h i (List.mem_range.2 hi')
  simp only [hi] at h1
  have h2 := List.all_eq_true.1 (Bool.and_eq_true_iff.1 h1).2 j (List.mem_range.2 hj')
  simp only [hj] at h2
  rw [Bool.or_eq_true, Bool.and_eq_true] at h2
  rcases h2 with h2 | ⟨h2, h3⟩
  · exact absurd (by simpa using h2) hij
  refine ⟨by simpa using h2, fun ht => ?_⟩
  have hc : (o.looksAt ops).contains t = true := by simpa using ht
  rw [hc] at h3
  simp only [Bool.not_true, Bool.false_or, Bool.or_eq_true, Bool.and_eq_true, decide_eq_true_eq] at h3
  rcases h3 with ⟨h3, h4⟩ | ⟨h3, h4⟩
  · refine .inl ⟨h3, ?_⟩
    obtain ⟨e, he, hb⟩ := Array.any_eq_true'.1 h4
    simp only [Bool.and_eq_true, beq_iff_eq] at hb
    exact ⟨e, he, hb.1, hb.2⟩
  · refine .inr ⟨h3, ?_⟩
    cases ho : ops[j]? with
    | none => rw [ho] at h4; cases h4
    | some oj =>
      rw [ho] at h4
      obtain ⟨e, he, hb⟩ := Array.any_eq_true'.1 h4
      simp only [Bool.and_eq_true, beq_iff_eq] at hb
      exact ⟨oj, rfl, e, he, hb.1, hb.2⟩
theorem floatOk_sel (h : floatOk ops = true) {i : Nat} {o : Oper} (hi : ops[i]? = some o) : ∀ cs b, o.op ≠ .select cs b := by
  have hi' : i < ops.size := (Array.getElem?_eq_some_iff.1 hi).1
  have h1 := List.all_eq_true.1 h i (List.mem_range.2 hi')
  simp only [hi] at h1
  intro cs b e
  rw [e] at h1
  simp at h1
/-- what an operation does hangs on the slots that it looks at alone -/
theorem Det.same {o : Oper} {v : Value} {a a' : Act} (hsel : ∀ cs b, o.op ≠ .select cs b) (h : ∀ t ∈ o.looksAt ops, a'.tmps[t]? = a.tmps[t]?) (hd : Det P ops S o v a) : Det P ops S o v a' := by
  have he : execOp a'.eval o = execOp a.eval o := execOp_congr o hsel fun x hx => by
    cases x with
    | tmp t =>
      have := h t (List.mem_append_left _ (List.mem_filterMap.2 ⟨.tmp t, by simpa using hx, rfl⟩))
      simp [Act.eval, this]
    | _ => rfl
  have hw : Region.wanted o (yielded ops a'.tmps) = Region.wanted o (yielded ops a.tmps) := by
    unfold Region.wanted
    cases hg : o.guard with
    | none => rfl
    | some gw =>
      obtain ⟨g, want⟩ := gw
      have hy : yielded ops a'.tmps g = yielded ops a.tmps g := by
        unfold yielded
        cases ht : (ops[g]?).bind (·.dst) with
        | none => rfl
        | some t =>
          have := h t (List.mem_append_right _ (by simp [hg, ht]))
          simp [this]
      simp only [hy]
  unfold Det at *
  rw [he, hw]
  exact hd
theorem actS_put (h : floatOk ops = true) {i : Nat} {o : Oper} (hi : ops[i]? = some o) {L M : Nat → Bool} (hL : L i = false) (hM : M i = true) (hne : ∀ j, j ≠ i → M j = L j) :
    ∀ k, i < k → (actS ops vs a L k).put o.dst (vs i) = actS ops vs a M k
  | 0, hk => by omega
  | k + 1, hk => by
    by_cases e : i = k
    · subst e
      have same : ∀ m, m ≤ i → actS ops vs a L m = actS ops vs a M m := by
        intro m
        induction m with
        | zero => intro _; rfl
        | succ m ih =>
          intro hm
          unfold actS
          rw [ih (by omega), hne m (by omega)]
      unfold actS
      rw [hL, hM]
      simp only [Bool.false_eq_true, if_false, if_true, hi, Option.bind_some]
      rw [same i (Nat.le_refl _)]
    · have ih := actS_put h hi hL hM hne k (by omega)
      unfold actS
      rw [hne k (fun e' => e e'.symm), ← ih]
      split
      · refine (Act.put_comm _ _ _ (fun d hd => fun hd' => ?_))
        exact (floatOk_spec h hi (j := k) (t := d) (by exact hd) e).1 (by exact hd')
      · rfl
theorem floatOk_edge (h : floatOk ops = true) {i : Nat} {o : Oper} (hi : ops[i]? = some o) : ∀ e ∈ o.after, Region.binds .any e = true → e.on < i := by
  have hi' : i < ops.size := (Array.getElem?_eq_some_iff.1 hi).1
  have h1 := List.all_eq_true.1 h i (List.mem_range.2 hi')
  simp only [hi] at h1
  have h2 := (Bool.and_eq_true_iff.1 (Bool.and_eq_true_iff.1 h1).1).2
  rw [Array.all_eq_true_iff_forall_mem] at h2
  intro e he hb
  have := h2 e he
  rw [hb] at this
  simpa using this
def cntF (L : Nat → Bool) : Nat → Nat
  | 0 => 0
  | k + 1 => cntF L k + (if L k then 0 else 1)
theorem cntF_same {L M : Nat → Bool} : ∀ k, (∀ j, j < k → M j = L j) → cntF M k = cntF L k
  | 0, _ => rfl
  | k + 1, h => by unfold cntF; rw [cntF_same k (fun j hj => h j (by omega)), h k (by omega)]
theorem cntF_set {L M : Nat → Bool} {i : Nat} (hL : L i = false) (hM : M i = true) (hne : ∀ j, j ≠ i → M j = L j) : ∀ k, i < k → cntF M k + 1 = cntF L k
  | 0, h => by omega
  | k + 1, h => by
    unfold cntF
    by_cases e : i = k
    · subst e
      rw [cntF_same i (fun j hj => hne j (by omega)), hL, hM]
      simp
    · have := cntF_set hL hM hne k (by omega)
      rw [hne k (fun e' => e e'.symm)]
      omega
theorem cntF_zero {L : Nat → Bool} : ∀ k, cntF L k = 0 → ∀ j, j < k → L j = true
  | 0, _, j, hj => by omega
  | k + 1, h, j, hj => by
    unfold cntF at h
    by_cases e : j = k
    · subst e
      by_cases hl : L j = true
      · exact hl
      · simp [hl] at h
    · exact cntF_zero k (by omega) j (by omega)
theorem ready_none (hok : floatOk ops = true) {L : Array Bool} (hr : Region.ready .any ops L = []) (hs : L.size = ops.size) : ∀ i, i < ops.size → L.getD i false = true := by
  intro i
  induction i using Nat.strongRecOn with
  | _ i ih =>
    intro hi
    cases hl : L.getD i false with
    | true => rfl
    | false =>
      exfalso
      have : i ∈ Region.ready .any ops L := mem_ready.2 ⟨by simpa [hs, hi] using hl, ops[i], by simp [hi], fun e he hb => ih _ (floatOk_edge hok (by simp [hi]) e he hb) (by have := floatOk_edge hok (i := i) (o := ops[i]) (by simp [hi]) e he hb; omega)⟩
      rw [hr] at this
      cases this
theorem actS_all {L : Nat → Bool} : ∀ k, (∀ j, j < k → L j = true) → actS ops vs a L k = actS ops vs a (fun _ => true) k
  | 0, _ => rfl
  | k + 1, h => by unfold actS; rw [actS_all k (fun j hj => h j (by omega)), h k (by omega)]
theorem float_any (hok : floatOk ops = true) (hdet : ∀ i o, ops[i]? = some o → Det P ops S o (vs i) (actS ops vs a (fun j => decide (j < i)) ops.size))
    (hq : ∀ w, S w → Q .normal (actS ops vs a (fun _ => true) ops.size) w) :
    ∀ (fuel : Nat) (L : Array Bool) (w : World), L.size = ops.size → closedL ops L → cntF (fun j => L.getD j false) ops.size ≤ fuel → S w →
      wpAny P .any ops Q fuel L (actS ops vs a (fun j => L.getD j false) ops.size) w := by
  have hend : ∀ (L : Array Bool) (w : World), (∀ i, i < ops.size → L.getD i false = true) → S w → Q .normal (actS ops vs a (fun j => L.getD j false) ops.size) w := fun L w h hS => by
    rw [actS_all _ h]
    exact hq w hS
  intro fuel
  induction fuel with
  | zero =>
    intro L w hs hc hn hS
    have hall := cntF_zero _ (Nat.le_zero.1 hn)
    refine ⟨?_, hend L w hall hS⟩
    cases hr : Region.ready .any ops L with
    | nil => rfl
    | cons i r =>
      have hi : i ∈ Region.ready .any ops L := by rw [hr]; simp
      obtain ⟨h0, o, ho, -⟩ := mem_ready.1 hi
      have hlt : i < ops.size := (Array.getElem?_eq_some_iff.1 ho).1
      have := hall i hlt
      simp [hs, hlt] at h0 this
      rw [h0] at this
      cases this
  | succ fuel ih =>
    intro L w hs hc hn hS
    refine ⟨fun hr => hend L w (ready_none hok hr hs) hS, fun i hi => ?_⟩
    obtain ⟨h0, o, ho, hafter⟩ := mem_ready.1 hi
    have hlt : i < ops.size := (Array.getElem?_eq_some_iff.1 ho).1
    have hLi : L.getD i false = false := by simpa [hs, hlt] using h0
    have hd : Det P ops S o (vs i) (actS ops vs a (fun j => L.getD j false) ops.size) := by
      refine (hdet i o ho).same (floatOk_sel hok ho) (fun t ht => ?_)
      refine actS_slot _ (fun j hj hdj => ?_)
      by_cases hij : i = j
      · subst hij; rw [hLi]; simp
      · rcases (floatOk_spec hok ho hdj hij).2 ht with ⟨h1, e, he, hb, hon⟩ | ⟨h1, oj, hoj, e, he, hb, hon⟩
        · rw [← hon, hafter e he hb]
          rw [hon]; simp [h1]
        · have : L.getD j false = false := by
            cases hl : L.getD j false with
            | false => rfl
            | true =>
              have := hc j oj hoj hl e he hb
              rw [hon, hLi] at this
              cases this
          rw [this]
          simp; omega
    have hset : ∀ j, (L.setIfInBounds i true).getD j false = if j = i then true else L.getD j false := fun j => by
      by_cases e : j = i
      · subst e; simp [hs, hlt]
      · rw [if_neg e, getD_set_ne false (fun e' => e e'.symm)]
    refine hd.step ho hS (fun w' hS' => ?_)
    have hact : (actS ops vs a (fun j => L.getD j false) ops.size).put o.dst (vs i) = actS ops vs a (fun j => (L.setIfInBounds i true).getD j false) ops.size :=
      actS_put hok ho (by exact hLi) (by simp [hset]) (fun j hj => by simp [hset, hj]) _ hlt
    rw [hact]
    refine ih (L.setIfInBounds i true) w' (by simpa using hs) ?_ ?_ hS'
    · intro j oj hoj hj e he hb
      rw [hset] at hj ⊢
      split
      · rfl
      · by_cases e' : j = i
        · subst e'
          rw [hoj] at ho
          cases ho
          exact hafter e he hb
        · rw [if_neg e'] at hj
          exact hc j oj hoj hj e he hb
    · have := cntF_set (L := fun j => L.getD j false) (M := fun j => (L.setIfInBounds i true).getD j false) (i := i) hLi (by simp [hset]) (fun j hj => by simp [hset, hj]) ops.size hlt
      omega
/-- the walk in the text's order -/
def Flo (P : Program) (ops : Array Oper) (Q : Exit → Act → World → Prop) (S : World → Prop) : List Oper → Act → Prop
  | [], a => ∀ w, S w → Q .normal a w
  | o :: rest, a => ∃ v, Det P ops S o v a ∧ Flo P ops Q S rest (a.put o.dst v)
def putT (ops : Array Oper) (vs : Nat → Value) (a : Act) : Nat → Act
  | 0 => a
  | k + 1 => (putT ops vs a k).put ((ops[k]?).bind (·.dst)) (vs k)
theorem actS_lt (i : Nat) : ∀ k, actS ops vs a (fun j => decide (j < i)) k = putT ops vs a (min i k)
  | 0 => by simp [actS, putT]
  | k + 1 => by
    unfold actS
    rw [actS_lt i k]
    by_cases h : k < i
    · have e1 : min i k = k := by omega
      have e2 : min i (k + 1) = k + 1 := by omega
      simp [h, e1, e2, putT]
    · have e1 : min i (k + 1) = min i k := by omega
      simp [h, e1]
theorem flo_vals : ∀ (l : List Oper) (i : Nat) (a0 : Act) (vs0 : Nat → Value), (∀ k, l[k]? = ops[i + k]?) → Flo P ops Q S l (putT ops vs0 a0 i) →
    ∃ vs : Nat → Value, (∀ j, j < i → vs j = vs0 j) ∧ (∀ k o, i ≤ k → ops[k]? = some o → Det P ops S o (vs k) (putT ops vs a0 k)) ∧ ∀ w, S w → Q .normal (putT ops vs a0 (i + l.length)) w
  | [], i, a0, vs0, hl, h => ⟨vs0, fun _ _ => rfl, fun k o hk ho => by
      have := hl (k - i)
      rw [show i + (k - i) = k by omega, ho] at this
      simp at this, by simp only [List.length_nil, Nat.add_zero]; exact h⟩
  | o :: rest, i, a0, vs0, hl, h => by
    obtain ⟨v, hd, hr⟩ := h
    have hi : ops[i]? = some o := by have := hl 0; simpa using this.symm
    have pt : ∀ (f g : Nat → Value) k, (∀ j, j < k → f j = g j) → putT ops f a0 k = putT ops g a0 k := by
      intro f g k
      induction k with
      | zero => intro _; rfl
      | succ k ih => intro h; unfold putT; rw [ih (fun j hj => h j (by omega)), h k (by omega)]
    have e1 : putT ops (fun j => if j = i then v else vs0 j) a0 i = putT ops vs0 a0 i := pt _ _ _ (fun j hj => by simp; omega)
    obtain ⟨vs, h1, h2, h3⟩ := flo_vals rest (i + 1) a0 (fun j => if j = i then v else vs0 j) (fun k => by have := hl (k + 1); simp at this; rw [this]; congr 1; omega) (by
      unfold putT
      rw [e1, hi]
      simpa using hr)
    refine ⟨vs, fun j hj => by rw [h1 j (by omega)]; simp; omega, fun k o' hk ho' => ?_, by rw [show i + (o :: rest).length = i + 1 + rest.length by simp; omega]; exact h3⟩
    by_cases e : k = i
    · subst e
      rw [hi] at ho'
      cases ho'
      rw [h1 k (by omega), pt vs vs0 k (fun j hj => by rw [h1 j (by omega)]; simp; omega)]
      simpa using hd
    · exact h2 k o' (by omega) ho'
/-- THE LAW -/
theorem wp_region_float {id : Nat} {w : World} (hm : P.follows .mixedOrders = true) (hok : floatOk ops = true) (S : World → Prop) (hS : S w.drew) (h : Flo P ops Q S ops.toList a) : (Code.region id ops true).wp P Q a w := by
  obtain ⟨vs, -, h2, h3⟩ := flo_vals ops.toList 0 a (fun _ => undef) (fun k => by simp) h
  refine wp_region_any hm ?_
  have h4 := float_any (P := P) (Q := Q) (S := S) (vs := vs) (a := a) hok (fun i o ho => by
      have hlt : i < ops.size := (Array.getElem?_eq_some_iff.1 ho).1
      rw [actS_lt, show min i ops.size = i by omega]
      exact h2 i o (by omega) ho) (fun w hw => by
      have := h3 w hw
      rw [← actS_all (L := fun j => decide (j < ops.size)) _ (fun j hj => by simpa using hj), actS_lt]
      simpa using this) ops.size (Array.replicate ops.size false) w.drew (by simp) (by
        intro j oj hoj hj
        exfalso
        have hlt : j < ops.size := (Array.getElem?_eq_some_iff.1 hoj).1
        simp [hlt] at hj) (by
        have : ∀ k, cntF (fun j => (Array.replicate ops.size false).getD j false) k ≤ k := by
          intro k
          induction k with
          | zero => simp [cntF]
          | succ k ih => unfold cntF; split <;> omega
        exact this _) hS
  have e : actS ops vs a (fun j => (Array.replicate ops.size false).getD j false) ops.size = a := by
    have : ∀ k, actS ops vs a (fun j => (Array.replicate ops.size false).getD j false) k = a := by
      intro k
      induction k with
      | zero => rfl
      | succ k ih =>
        unfold actS
        rw [ih, if_neg]
        by_cases hk : k < ops.size <;> simp [hk]
    exact this _
  rw [e] at h4
  exact h4
theorem Flo.run {o : Oper} {rest : List Oper} {v : Value} (hw : Region.wanted o (yielded ops a.tmps) = true) (hd : ∀ w, S w → Yv P v S ((execOp a.eval o).run P w)) (h : Flo P ops Q S rest (a.put o.dst v)) : Flo P ops Q S (o :: rest) a :=
  ⟨v, .inl ⟨hw, hd⟩, h⟩
theorem Flo.val {o : Oper} {rest : List Oper} {v : Value} (hw : Region.wanted o (yielded ops a.tmps) = true) (hd : ∀ w, S w → (execOp a.eval o).run P w = .ok (.value v) w) (h : Flo P ops Q S rest (a.put o.dst v)) : Flo P ops Q S (o :: rest) a :=
  ⟨v, .inl ⟨hw, fun w hS => by rw [hd w hS]; exact ⟨rfl, hS⟩⟩, h⟩
theorem Flo.call {o : Oper} {rest : List Oper} {v : Value} {f : FuncId} {args : Array Value} (hw : Region.wanted o (yielded ops a.tmps) = true) (hd : ∀ w, S w → (execOp a.eval o).run P w = .ok (.enter f args) w)
    (hc : ∀ w, S w → Calls P f args w (fun e w'' => e = .returned v ∧ S w'')) (h : Flo P ops Q S rest (a.put o.dst v)) : Flo P ops Q S (o :: rest) a :=
  ⟨v, .inl ⟨hw, fun w hS => by rw [hd w hS]; exact hc w hS⟩, h⟩
theorem Flo.skip {o : Oper} {rest : List Oper} (hw : Region.wanted o (yielded ops a.tmps) = false) (h : Flo P ops Q S rest (a.put o.dst undef)) : Flo P ops Q S (o :: rest) a :=
  ⟨undef, .inr ⟨hw, rfl⟩, h⟩
theorem Yv.value {r : Result Next} {v : Value} {w : World} (h : r = .ok (.value v) w) (hS : S w) : Yv P v S r := by subst h; exact ⟨rfl, hS⟩
theorem Yv.enter {r : Result Next} {v : Value} {f : FuncId} {args : Array Value} {w : World} (h : r = .ok (.enter f args) w) (hc : Calls P f args w (fun e w'' => e = .returned v ∧ S w'')) : Yv P v S r := by subst h; exact hc
end
end Go.Proofs.YtjpdadibeocpfaaDoor
