/-
  A law for a region that draws its order, inside any fence (a round's too): what only reads (the floats) may be taken first, then the others one behind the other, if each of these waits for the one before it. Condition: the region's own edges say so (a closed fact), and what the floats read stays till the last of the others.
-/
import Derived.Test.YtoijpjmkjhoiaaaFloat
import Derived.OrdersIn
import Derived.TacticsIn
import Derived.ControlIn
namespace Go.Proofs.Ytoijpjmkjhoiaaa
set_option linter.unusedVariables false
set_option linter.unusedSimpArgs false
open Go.RowKit
section
variable {F : Fence} {n : Nat} {P : Program} {ops : Array Oper} {Q : Exit → Act → World → Prop} {S : World → Prop}
/-- what only reads -/
def DetP (P : Program) (ops : Array Oper) (S : World → Prop) (o : Oper) (v : Value) (a : Act) : Prop :=
  (∀ w, S w → o.about P w a.eval = none) ∧ ((Region.wanted o (yielded ops a.tmps) = true ∧ ∀ w, S w → (execOp a.eval o).run P w = .ok (.value v) w) ∨ (Region.wanted o (yielded ops a.tmps) = false ∧ v = undef))
/-- the others, one behind the other -/
def ChainRun (F : Fence) (n : Nat) (P : Program) (ops : Array Oper) (Q : Exit → Act → World → Prop) (S : World → Prop) (fin : Bool) : List Nat → Act → World → Prop
  | [], a, w => Q .normal a w ∧ (fin = true ∨ S w)
  | i :: r, a, w => S w ∧ ∃ o, ops[i]? = some o ∧ wpListIn F n P ops (fun e a' w' => match e with
    | .normal => a'.defers = a.defers ∧ ChainRun F n P ops Q S fin r a' w'
    | _ => False) [o] a w
/-- the floats, in the text's order; then C -/
def FloC (P : Program) (ops : Array Oper) (S : World → Prop) (cs : List Nat) : Nat → List Oper → Act → (Act → Prop) → Prop
  | _, [], a, C => C a
  | k, o :: rest, a, C => if cs.contains k then FloC P ops S cs (k + 1) rest a C else ∃ v, DetP P ops S o v a ∧ FloC P ops S cs (k + 1) rest (a.put o.dst v) C
def fl (cs : List Nat) (j : Nat) : Bool := !cs.contains j
def noDefer (o : Oper) : Bool := match o.op with
  | .defer _ => false
  | _ => true
def linked (ops : Array Oper) : List Nat → Bool
  | c :: c' :: r => (match ops[c']? with
    | some o => o.after.any fun e => Region.binds .any e && e.on == c
    | none => false) && linked ops (c' :: r)
  | _ => true
def chainOk (ops : Array Oper) (cs : List Nat) : Bool :=
  floatOk ops && linked ops cs && cs.all (fun c => decide (c < ops.size)) && (List.range ops.size).all fun i => match ops[i]? with
    | none => true
    | some o => noDefer o && (!fl cs i || o.after.all fun e => !Region.binds .any e || fl cs e.on)
/-- who is ahead of the last -/
def ahead (ops : Array Oper) : Nat → (Nat → Bool) → (Nat → Bool)
  | 0, m => m
  | k + 1, m => ahead ops k (if m k then fun j => m j || (match ops[k]? with
    | some o => o.after.any fun e => Region.binds .any e && e.on == j
    | none => false) else m)
def finOk (ops : Array Oper) (cs : List Nat) : Bool := match cs.getLast? with
  | none => false
  | some l => (List.range ops.size).all fun i => ahead ops ops.size (fun j => j == l) i
theorem DetP.same {o : Oper} {v : Value} {a a' : Act} (hsel : ∀ cs b, o.op ≠ .select cs b) (h : ∀ t ∈ o.looksAt ops, a'.tmps[t]? = a.tmps[t]?) :
    execOp a'.eval o = execOp a.eval o ∧ Region.wanted o (yielded ops a'.tmps) = Region.wanted o (yielded ops a.tmps) ∧ ∀ w, o.about P w a'.eval = o.about P w a.eval := by
  have hev : ∀ x ∈ o.op.operands, a'.eval x = a.eval x := fun x hx => by
    cases x with
    | tmp t =>
      have := h t (List.mem_append_left _ (List.mem_filterMap.2 ⟨.tmp t, by simpa using hx, rfl⟩))
      simp [Act.eval, this]
    | _ => rfl
  refine ⟨execOp_congr o hsel hev, ?_, fun w => about_congr o w hev⟩
  unfold Region.wanted
  cases hg : o.guard with
  | none => rfl
  | some gw =>
    obtain ⟨g, want⟩ := gw
    have hy : yielded ops a'.tmps g = yielded ops a.tmps g := by
      unfold yielded
      cases ht : (ops[g]?).bind (·.dst) with
      | none => rfl
      | some t =>
        have := h t (List.mem_append_right _ (by simp [hg, ht]))
        simp [this]
    simp only [hy]
theorem semAt_same {o : Oper} {a a' : Act} (he : execOp a'.eval o = execOp a.eval o) (hd : noDefer o = true) : o.semAt F.round a'.eval = o.semAt F.round a.eval := by
  have hn : ∀ c, o.op ≠ .defer c := fun c h => by simp [noDefer, h] at hd
  rw [Oper.semAt_eq _ _ _ hn, Oper.semAt_eq _ _ _ hn, he]
/-- one of the others, taken at a frame that agrees on what it looks at -/
theorem chain_step {i : Nat} {o : Oper} {a a' : Act} {w : World} {R K : Act → World → Prop} (hi : ops[i]? = some o) (hsel : ∀ cs b, o.op ≠ .select cs b) (hd : noDefer o = true) (hl : ∀ t ∈ o.looksAt ops, a'.tmps[t]? = a.tmps[t]?)
    (h : wpListIn F n P ops (fun e a1 w1 => match e with
      | .normal => a1.defers = a.defers ∧ R a1 w1
      | _ => False) [o] a w)
    (hK : ∀ v w1, R (a.put o.dst v) w1 → K (a'.put o.dst v) w1) : wpOpIn F n P ops Q i K a' w := by
  obtain ⟨h1, h2, h3⟩ := DetP.same (P := P) (v := undef) hsel hl
  unfold wpOpIn
  simp only [hi]
  unfold wpListIn at h
  rw [h2]
  split
  · rename_i hw
    rw [if_pos hw] at h
    unfold Oper.wpIn at h ⊢
    rw [h3 w, semAt_same h1 hd]
    refine ⟨h.1, ?_⟩
    have h := h.2
    generalize (o.semAt F.round a.eval).run P w = r at h ⊢
    cases r with
    | halt x w1 =>
      cases x <;> exact h.elim
    | ok nx w1 =>
      cases nx with
      | value v => exact hK v w1 h.2
      | skip => exact hK undef w1 h.2
      | defer d =>
        have := congrArg List.length h.1
        exfalso
        cases ho : o.dst <;> simp [Act.put, ho] at this
      | enter f args =>
        refine ⟨h.1, h.2.mono ?_⟩
        intro e w2 he
        cases e with
        | returned v => exact hK v w2 he.2
        | panicked c => exact he.elim
        | outgrown => obtain ⟨_, _, hx⟩ := he; exact hx.elim
      | row r args => exact ⟨h.1, h.2.mono fun v w2 he => hK v w2 he.2⟩
      | round l f tmps assign body =>
        refine ⟨h.1, h.2.mono ?_⟩
        intro e w2 he
        cases e with
        | returned v => exact hK v w2 he.2
        | panicked c => exact he.elim
        | outgrown => obtain ⟨_, _, hx⟩ := he; exact hx.elim
      | _ => exact h.elim
  · rename_i hw
    rw [if_neg hw] at h
    rw [h3 w]
    exact ⟨h.1, hK undef w h.2.2⟩
/-- the frame behind the first k operations that are floats -/
def putF (ops : Array Oper) (vs : Nat → Value) (cs : List Nat) (a : Act) : Nat → Act
  | 0 => a
  | k + 1 => if fl cs k then (putF ops vs cs a k).put ((ops[k]?).bind (·.dst)) (vs k) else putF ops vs cs a k
theorem actF_lt {vs : Nat → Value} {cs : List Nat} {a : Act} (i : Nat) : ∀ k, actS ops vs a (fun j => fl cs j && decide (j < i)) k = putF ops vs cs a (min i k)
  | 0 => by simp [actS, putF]
  | k + 1 => by
    unfold actS
    rw [actF_lt i k]
    by_cases h : k < i
    · have e1 : min i k = k := by omega
      have e2 : min i (k + 1) = k + 1 := by omega
      simp [h, e1, e2, putF]
    · have e1 : min i (k + 1) = min i k := by omega
      simp [h, e1]
theorem putF_same {vs vs' : Nat → Value} {cs : List Nat} {a : Act} : ∀ k, (∀ j, j < k → fl cs j = true → vs j = vs' j) → putF ops vs cs a k = putF ops vs' cs a k
  | 0, _ => rfl
  | k + 1, h => by
    unfold putF
    rw [putF_same k (fun j hj => h j (by omega))]
    split
    · rename_i hf
      rw [h k (by omega) hf]
    · rfl
theorem floC_vals {cs : List Nat} {C : Act → Prop} : ∀ (l : List Oper) (i : Nat) (a0 : Act) (vs0 : Nat → Value), (∀ k, l[k]? = ops[i + k]?) → FloC P ops S cs i l (putF ops vs0 cs a0 i) C →
    ∃ vs : Nat → Value, (∀ j, j < i → vs j = vs0 j) ∧ (∀ k o, i ≤ k → fl cs k = true → ops[k]? = some o → DetP P ops S o (vs k) (putF ops vs cs a0 k)) ∧ C (putF ops vs cs a0 (i + l.length))
  | [], i, a0, vs0, hl, h => ⟨vs0, fun _ _ => rfl, fun k o hk _ ho => by
      have := hl (k - i)
      rw [show i + (k - i) = k by omega, ho] at this
      simp at this, h⟩
  | o :: rest, i, a0, vs0, hl, h => by
    have hi : ops[i]? = some o := by have := hl 0; simpa using this.symm
    have hl2 : ∀ k, rest[k]? = ops[i + 1 + k]? := fun k => by have := hl (k + 1); simp at this; rw [this]; congr 1; omega
    unfold FloC at h
    by_cases hc : cs.contains i = true
    · rw [if_pos hc] at h
      have hfi : fl cs i = false := by unfold fl; rw [hc]; rfl
      obtain ⟨vs, h1, h2, h3⟩ := floC_vals rest (i + 1) a0 vs0 hl2 (by
        unfold putF
        rw [hfi, if_neg (by simp)]
        exact h)
      refine ⟨vs, fun j hj => h1 j (by omega), fun k o' hk hf ho' => ?_, by rw [show i + (o :: rest).length = i + 1 + rest.length by simp; omega]; exact h3⟩
      by_cases e : k = i
      · subst e; rw [hfi] at hf; cases hf
      · exact h2 k o' (by omega) hf ho'
    · rw [if_neg hc] at h
      have hfi : fl cs i = true := by unfold fl; simpa using hc
      obtain ⟨v, hd, hr⟩ := h
      have e1 : putF ops (fun j => if j = i then v else vs0 j) cs a0 i = putF ops vs0 cs a0 i := putF_same _ (fun j hj _ => by simp; omega)
      obtain ⟨vs, h1, h2, h3⟩ := floC_vals rest (i + 1) a0 (fun j => if j = i then v else vs0 j) hl2 (by
        unfold putF
        rw [e1, hi, hfi, if_pos rfl]
        simpa using hr)
      refine ⟨vs, fun j hj => by rw [h1 j (by omega)]; simp; omega, fun k o' hk hf ho' => ?_, by rw [show i + (o :: rest).length = i + 1 + rest.length by simp; omega]; exact h3⟩
      by_cases e : k = i
      · subst e
        rw [hi] at ho'
        cases ho'
        rw [h1 k (by omega), putF_same (vs := vs) (vs' := vs0) k (fun j hj _ => by rw [h1 j (by omega)]; simp; omega)]
        simpa using hd
      · exact h2 k o' (by omega) hf ho'
theorem chainOk_parts {cs : List Nat} (h : chainOk ops cs = true) : floatOk ops = true ∧ linked ops cs = true ∧ (∀ c ∈ cs, c < ops.size) ∧ ∀ i o, ops[i]? = some o → noDefer o = true ∧ (fl cs i = true → ∀ e ∈ o.after, Region.binds .any e = true → fl cs e.on = true) := by
  unfold chainOk at h
  simp only [Bool.and_eq_true] at h
  obtain ⟨⟨⟨h1, h2⟩, h3⟩, h4⟩ := h
  refine ⟨h1, h2, fun c hc => by simpa using List.all_eq_true.1 h3 c hc, fun i o hi => ?_⟩
  have hlt : i < ops.size := (Array.getElem?_eq_some_iff.1 hi).1
  have := List.all_eq_true.1 h4 i (List.mem_range.2 hlt)
  simp only [hi, Bool.and_eq_true] at this
  refine ⟨this.1, fun hf e he hb => ?_⟩
  have h5 := this.2
  rw [hf] at h5
  simp only [Bool.not_true, Bool.false_or, Array.all_eq_true_iff_forall_mem] at h5
  have := h5 e he
  rw [hb] at this
  simpa using this
/-- whoever stands in the rest behind the first waits for one of the rest -/
theorem linked_wait : ∀ {cs : List Nat} {c : Nat} {r : List Nat}, linked ops cs = true → (∃ pre, cs = pre ++ c :: r) → ∀ i ∈ r, ∃ o, ops[i]? = some o ∧ ∃ e ∈ o.after, Region.binds .any e = true ∧ e.on ∈ c :: r := by
  intro cs c r hl hp i hi
  have hsuf : linked ops (c :: r) = true := by
    obtain ⟨pre, rfl⟩ := hp
    clear hi
    induction pre with
    | nil => exact hl
    | cons p pre ih =>
      refine ih ?_
      cases hq : pre ++ c :: r with
      | nil => rfl
      | cons q t =>
        rw [List.cons_append, hq] at hl
        unfold linked at hl
        rw [Bool.and_eq_true] at hl
        exact hl.2
  clear hl hp
  induction r generalizing c with
  | nil => cases hi
  | cons c' r ih =>
    unfold linked at hsuf
    rw [Bool.and_eq_true] at hsuf
    rcases List.mem_cons.1 hi with rfl | hi
    · have h1 := hsuf.1
      cases ho : ops[i]? with
      | none => rw [ho] at h1; cases h1
      | some o =>
        rw [ho] at h1
        obtain ⟨e, he, hb⟩ := Array.any_eq_true'.1 h1
        simp only [Bool.and_eq_true, beq_iff_eq] at hb
        exact ⟨o, rfl, e, he, hb.1, by rw [hb.2]; simp⟩
    · obtain ⟨o, ho, e, he, hb, hon⟩ := ih hi hsuf.2
      exact ⟨o, ho, e, he, hb, List.mem_cons_of_mem _ hon⟩
theorem ahead_in {L : Array Bool} (hcl : closedL ops L) : ∀ (k : Nat) (m : Nat → Bool), (∀ j, m j = true → L.getD j false = true) → ∀ j, ahead ops k m j = true → L.getD j false = true
  | 0, m, hm, j, h => hm j h
  | k + 1, m, hm, j, h => by
    unfold ahead at h
    refine ahead_in hcl k _ ?_ j h
    intro j' hj'
    split at hj'
    · rename_i hk
      rcases Bool.or_eq_true_iff.1 hj' with h' | h'
      · exact hm j' h'
      · cases ho : ops[k]? with
        | none => rw [ho] at h'; cases h'
        | some o =>
          rw [ho] at h'
          obtain ⟨e, he, hb⟩ := Array.any_eq_true'.1 h'
          simp only [Bool.and_eq_true, beq_iff_eq] at hb
          rw [← hb.2]
          exact hcl k o ho (hm k hk) e he hb.1
    · exact hm j' hj'
theorem actS_vals {vs vs' : Nat → Value} {a : Act} {L : Nat → Bool} : ∀ k, (∀ j, j < k → L j = true → vs j = vs' j) → actS ops vs a L k = actS ops vs' a L k
  | 0, _ => rfl
  | k + 1, h => by
    unfold actS
    rw [actS_vals k (fun j hj => h j (by omega))]
    split
    · rename_i hf
      rw [h k (by omega) hf]
    · rfl
theorem fl_true {cs : List Nat} {i : Nat} : fl cs i = true ↔ i ∉ cs := by unfold fl; simp
theorem fl_false {cs : List Nat} {i : Nat} : fl cs i = false ↔ i ∈ cs := by unfold fl; simp
theorem chain_any {cs : List Nat} (hok : chainOk ops cs = true) {fin : Bool} (hfin : fin = true → finOk ops cs = true) (a : Act) :
    ∀ (fuel : Nat) (L : Array Bool) (w : World) (vs : Nat → Value) (pre rest : List Nat), L.size = ops.size → closedL ops L → cs = pre ++ rest → (∀ j ∈ pre, L.getD j false = true) → (∀ j ∈ rest, L.getD j false = false) → rest.Nodup → cntF (fun j => L.getD j false) ops.size ≤ fuel →
      (∀ k o, fl cs k = true → ops[k]? = some o → DetP P ops S o (vs k) (actS ops vs a (fun j => fl cs j && decide (j < k)) ops.size)) →
      ChainRun F n P ops Q S fin rest (actS ops vs a (fun j => fl cs j || L.getD j false) ops.size) w →
      wpAnyIn F n P .any ops Q fuel L (actS ops vs a (fun j => L.getD j false) ops.size) w := by
  obtain ⟨hfo, hln, hcs, hop⟩ := chainOk_parts hok
  have hend : ∀ (L : Array Bool) (w : World) (vs : Nat → Value) (pre rest : List Nat), cs = pre ++ rest → (∀ j ∈ rest, L.getD j false = false) → ChainRun F n P ops Q S fin rest (actS ops vs a (fun j => fl cs j || L.getD j false) ops.size) w → (∀ i, i < ops.size → L.getD i false = true) → Q .normal (actS ops vs a (fun j => L.getD j false) ops.size) w := by
    intro L w vs pre rest hp hr hc hall
    cases rest with
    | cons c r =>
      have h1 := hr c (by simp)
      rw [hall c (hcs c (by rw [hp]; simp))] at h1
      cases h1
    | nil =>
      have := hc.1
      rw [actS_all _ (fun j hj => by rw [hall j hj, Bool.or_true])] at this
      rw [actS_all _ hall]
      exact this
  intro fuel
  induction fuel with
  | zero =>
    intro L w vs pre rest hs hc hp h1 h2 hnd hn hdet hch
    have hall := cntF_zero _ (Nat.le_zero.1 hn)
    refine ⟨?_, hend L w vs pre rest hp h2 hch hall⟩
    cases hr : Region.ready .any ops L with
    | nil => rfl
    | cons i r =>
      have hi : i ∈ Region.ready .any ops L := by rw [hr]; simp
      obtain ⟨h0, o, ho, -⟩ := mem_ready.1 hi
      have hlt : i < ops.size := (Array.getElem?_eq_some_iff.1 ho).1
      have := hall i hlt
      simp [hs, hlt] at h0 this
      rw [h0] at this
      cases this
  | succ fuel ih =>
    intro L w vs pre rest hs hc hp h1 h2 hnd hn hdet hch
    refine ⟨fun hr => hend L w vs pre rest hp h2 hch (ready_none hfo hr hs), fun i hi => ?_⟩
    obtain ⟨h0, o, ho, hafter⟩ := mem_ready.1 hi
    have hlt : i < ops.size := (Array.getElem?_eq_some_iff.1 ho).1
    have hLi : L.getD i false = false := by simpa [hs, hlt] using h0
    have hset : ∀ j, (L.setIfInBounds i true).getD j false = if j = i then true else L.getD j false := fun j => by
      by_cases e : j = i
      · subst e; simp [hs, hlt]
      · rw [if_neg e, getD_set_ne false (fun e' => e e'.symm)]
    have hcl' : closedL ops (L.setIfInBounds i true) := by
      intro j oj hoj hj e he hb
      rw [hset] at hj ⊢
      split
      · rfl
      · by_cases e' : j = i
        · subst e'
          rw [hoj] at ho
          cases ho
          exact hafter e he hb
        · rw [if_neg e'] at hj
          exact hc j oj hoj hj e he hb
    have hcnt' : cntF (fun j => (L.setIfInBounds i true).getD j false) ops.size ≤ fuel := by
      have := cntF_set (L := fun j => L.getD j false) (M := fun j => (L.setIfInBounds i true).getD j false) (i := i) hLi (by simp [hset]) (fun j hj => by simp [hset, hj]) ops.size hlt
      omega
    have hsel := floatOk_sel hfo ho
    cases hfi : fl cs i with
    | true =>
      have hic : i ∉ cs := fl_true.1 hfi
      have hSw : S w := by
        cases rest with
        | cons c r => exact hch.1
        | nil =>
          rcases hch.2 with hf | hs'
          · exfalso
            have hfo' := hfin hf
            unfold finOk at hfo'
            cases hl : cs.getLast? with
            | none => rw [hl] at hfo'; cases hfo'
            | some l =>
              rw [hl] at hfo'
              have hmem : l ∈ pre := by have := List.mem_of_getLast? hl; rw [hp] at this; simpa using this
              have := ahead_in hc ops.size (fun j => j == l) (fun j hj => by have : j = l := by simpa using hj
                                                                             rw [this]; exact h1 l hmem) i (List.all_eq_true.1 hfo' i (List.mem_range.2 hlt))
              rw [hLi] at this
              cases this
          · exact hs'
      obtain ⟨hd1, hd2⟩ := hdet i o hfi ho
      have hslot : ∀ t ∈ o.looksAt ops, (actS ops vs a (fun j => L.getD j false) ops.size).tmps[t]? = (actS ops vs a (fun j => fl cs j && decide (j < i)) ops.size).tmps[t]? := by
        intro t ht
        refine actS_slot _ (fun j hj hdj => ?_)
        by_cases hij : i = j
        · subst hij; rw [hLi]; simp
        · rcases (floatOk_spec hfo ho hdj hij).2 ht with ⟨h3, e, he, hb, hon⟩ | ⟨h3, oj, hoj, e, he, hb, hon⟩
          · have e1 := hafter e he hb
            have e2 := (hop i o ho).2 hfi e he hb
            rw [hon] at e1 e2
            rw [e1, e2]
            simp [h3]
          · have : L.getD j false = false := by
              cases hl : L.getD j false with
              | false => rfl
              | true =>
                have := hc j oj hoj hl e he hb
                rw [hon, hLi] at this
                cases this
            rw [this]
            simp; omega
      obtain ⟨g1, g2, g3⟩ := DetP.same (P := P) (v := undef) hsel hslot
      have hact : (actS ops vs a (fun j => L.getD j false) ops.size).put o.dst (vs i) = actS ops vs a (fun j => (L.setIfInBounds i true).getD j false) ops.size :=
        actS_put hfo ho (by exact hLi) (by simp [hset]) (fun j hj => by simp [hset, hj]) _ hlt
      have hnext : wpAnyIn F n P .any ops Q fuel (L.setIfInBounds i true) ((actS ops vs a (fun j => L.getD j false) ops.size).put o.dst (vs i)) w := by
        rw [hact]
        refine ih (L.setIfInBounds i true) w vs pre rest (by simpa using hs) hcl' hp (fun j hj => by rw [hset]; split; rfl; exact h1 j hj) (fun j hj => ?_) hnd hcnt' hdet ?_
        · rw [hset, if_neg (fun e => hic (by rw [hp, ← e]; simp [hj]))]
          exact h2 j hj
        · have e : (fun j => fl cs j || (L.setIfInBounds i true).getD j false) = fun j => fl cs j || L.getD j false := by
            funext j
            rw [hset]
            by_cases e : j = i
            · rw [e, hfi]; simp
            · rw [if_neg e]
          rw [e]
          exact hch
      unfold wpOpIn
      simp only [ho]
      have hab : ∀ f, o.about P w (actS ops vs a (fun j => L.getD j false) ops.size).eval = some f → F.fn f := fun f hf => by rw [g3 w, hd1 w hSw] at hf; cases hf
      rcases hd2 with ⟨hw, hv⟩ | ⟨hw, hv⟩
      · rw [if_pos (by rw [g2]; exact hw)]
        unfold Oper.wpIn
        refine ⟨hab, ?_⟩
        have hnd' : ∀ c, o.op ≠ .defer c := fun c h => by have := (hop i o ho).1; simp [noDefer, h] at this
        rw [Oper.semAt_eq _ _ _ hnd', g1, hv w hSw]
        exact hnext
      · rw [if_neg (by rw [g2, hw]; decide)]
        exact ⟨hab, by rw [← hv]; exact hnext⟩
    | false =>
      have hic : i ∈ cs := fl_false.1 hfi
      have hir : i ∈ rest := by
        rw [hp] at hic
        rcases List.mem_append.1 hic with h | h
        · rw [h1 i h] at hLi; cases hLi
        · exact h
      cases rest with
      | nil => cases hir
      | cons c r =>
        have hci : i = c := by
          rcases List.mem_cons.1 hir with h | h
          · exact h
          · exfalso
            obtain ⟨o', ho', e, he, hb, hon⟩ := linked_wait hln ⟨pre, hp⟩ i h
            rw [ho] at ho'
            cases ho'
            have e1 := hafter e he hb
            rw [h2 _ hon] at e1
            cases e1
        subst hci
        obtain ⟨-, o', ho', hrun⟩ := hch
        rw [ho] at ho'
        cases ho'
        have hslot : ∀ t ∈ o.looksAt ops, (actS ops vs a (fun j => L.getD j false) ops.size).tmps[t]? = (actS ops vs a (fun j => fl cs j || L.getD j false) ops.size).tmps[t]? := by
          intro t ht
          refine actS_slot _ (fun j hj hdj => ?_)
          by_cases hij : i = j
          · subst hij; rw [hfi]; rfl
          · rcases (floatOk_spec hfo ho hdj hij).2 ht with ⟨h3, e, he, hb, hon⟩ | ⟨h3, oj, hoj, e, he, hb, hon⟩
            · have e1 := hafter e he hb
              rw [hon] at e1
              rw [e1]; simp
            · have : fl cs j = false := by
                cases hl : fl cs j with
                | false => rfl
                | true =>
                  have := (hop j oj hoj).2 hl e he hb
                  rw [hon, hfi] at this
                  cases this
              rw [this]; rfl
        refine chain_step ho hsel (hop i o ho).1 hslot hrun (fun v w1 hR => ?_)
        have hvL : ∀ M : Nat → Bool, M i = false → actS ops (fun j => if j = i then v else vs j) a M ops.size = actS ops vs a M ops.size := fun M hM => actS_vals _ (fun j _ hj => by
          by_cases e : j = i
          · rw [e, hM] at hj; cases hj
          · simp [e])
        have hp2 : ∀ M N : Nat → Bool, M i = false → N i = true → (∀ j, j ≠ i → N j = M j) → (actS ops vs a M ops.size).put o.dst v = actS ops (fun j => if j = i then v else vs j) a N ops.size := fun M N hM hN hne => by
          have := actS_put (vs := fun j => if j = i then v else vs j) (a := a) hfo ho hM hN hne _ hlt
          rw [hvL M hM] at this
          simpa using this
        rw [hp2 (fun j => L.getD j false) (fun j => (L.setIfInBounds i true).getD j false) hLi (by simp [hset]) (fun j hj => by simp [hset, hj])]
        rw [hp2 (fun j => fl cs j || L.getD j false) (fun j => fl cs j || (L.setIfInBounds i true).getD j false) (by simp only [hfi, hLi, Bool.or_self]) (by simp [hset]) (fun j hj => by simp [hset, hj])] at hR
        have hndr := (List.nodup_cons.1 hnd)
        refine ih (L.setIfInBounds i true) w1 _ (pre ++ [i]) r (by simpa using hs) hcl' (by rw [hp]; simp) (fun j hj => ?_) (fun j hj => ?_) hndr.2 hcnt' (fun k o' hk ho' => ?_) hR
        · rw [hset]
          split
          · rfl
          · rename_i hne
            rcases List.mem_append.1 hj with h | h
            · exact h1 j h
            · exact absurd (by simpa using h) hne
        · rw [hset, if_neg (fun e => hndr.1 (by rw [← e]; exact hj))]
          exact h2 j (List.mem_cons_of_mem _ hj)
        · have hki : k ≠ i := fun e => by rw [e, hfi] at hk; cases hk
          rw [hvL _ (by rw [hfi]; rfl), if_neg hki]
          exact hdet k o' hk ho'
/-- THE LAW: the floats, then the others one behind the other -/
theorem wpIn_region_chain {id : Nat} {a : Act} {w : World} (cs : List Nat) (fin : Bool) (hm : P.follows .mixedOrders = true) (hok : chainOk ops cs = true) (hnd : decide cs.Nodup = true) (hfin : (!fin || finOk ops cs) = true) (S : World → Prop)
    (h : FloC P ops S cs 0 ops.toList a (fun a' => ChainRun F n P ops Q S fin cs a' w.drew)) : (Code.region id ops true).wpIn F n P Q a w := by
  obtain ⟨vs, -, h2, h3⟩ := floC_vals ops.toList 0 a (fun _ => undef) (fun k => by simp) h
  have hf : fin = true → finOk ops cs = true := fun e => by rw [e] at hfin; simpa using hfin
  refine wpIn_region_any hm ?_
  have h4 := chain_any (F := F) (n := n) (P := P) (Q := Q) (S := S) hok hf a ops.size (Array.replicate ops.size false) w.drew vs [] cs (by simp) (by
      intro j oj hoj hj
      exfalso
      have hlt : j < ops.size := (Array.getElem?_eq_some_iff.1 hoj).1
      simp [hlt] at hj) rfl (fun j hj => by cases hj) (fun j hj => by
      have := (chainOk_parts hok).2.2.1 j hj
      simp [this]) (by simpa using hnd) (by
      have : ∀ k, cntF (fun j => (Array.replicate ops.size false).getD j false) k ≤ k := by
        intro k
        induction k with
        | zero => simp [cntF]
        | succ k ih => unfold cntF; split <;> omega
      exact this _) (fun k o hk ho => by
      have hlt : k < ops.size := (Array.getElem?_eq_some_iff.1 ho).1
      rw [actF_lt, show min k ops.size = k by omega]
      exact h2 k o (by omega) hk ho) (by
      have e : actS ops vs a (fun j => fl cs j || (Array.replicate ops.size false).getD j false) ops.size = putF ops vs cs a ops.size := by
        have := actF_lt (ops := ops) (vs := vs) (cs := cs) (a := a) ops.size ops.size
        rw [show min ops.size ops.size = ops.size by omega] at this
        rw [← this]
        have : ∀ k, k ≤ ops.size → actS ops vs a (fun j => fl cs j || (Array.replicate ops.size false).getD j false) k = actS ops vs a (fun j => fl cs j && decide (j < ops.size)) k := by
          intro k
          induction k with
          | zero => intro _; rfl
          | succ k ih =>
            intro hk
            unfold actS
            rw [ih (by omega)]
            have hkl : k < ops.size := by omega
            simp [hkl]
        exact this _ (Nat.le_refl _)
      rw [e]
      simpa using h3)
  have e : actS ops vs a (fun j => (Array.replicate ops.size false).getD j false) ops.size = a := by
    have : ∀ k, actS ops vs a (fun j => (Array.replicate ops.size false).getD j false) k = a := by
      intro k
      induction k with
      | zero => rfl
      | succ k ih =>
        unfold actS
        rw [ih, if_neg]
        by_cases hk : k < ops.size <;> simp [hk]
    exact this _
  rw [e] at h4
  exact h4
theorem FloC.skip {cs : List Nat} {k : Nat} {o : Oper} {rest : List Oper} {a : Act} {C : Act → Prop} (hc : cs.contains k = true) (h : FloC P ops S cs (k + 1) rest a C) : FloC P ops S cs k (o :: rest) a C := by
  unfold FloC
  rw [if_pos hc]
  exact h
theorem FloC.val {cs : List Nat} {k : Nat} {o : Oper} {rest : List Oper} {a : Act} {C : Act → Prop} {v : Value} (hc : cs.contains k = false) (hb : ∀ w, S w → o.about P w a.eval = none) (hw : Region.wanted o (yielded ops a.tmps) = true) (hd : ∀ w, S w → (execOp a.eval o).run P w = .ok (.value v) w)
    (h : FloC P ops S cs (k + 1) rest (a.put o.dst v) C) : FloC P ops S cs k (o :: rest) a C := by
  unfold FloC
  rw [if_neg (by rw [hc]; decide)]
  exact ⟨v, ⟨hb, .inl ⟨hw, hd⟩⟩, h⟩
theorem FloC.no {cs : List Nat} {k : Nat} {o : Oper} {rest : List Oper} {a : Act} {C : Act → Prop} (hc : cs.contains k = false) (hb : ∀ w, S w → o.about P w a.eval = none) (hw : Region.wanted o (yielded ops a.tmps) = false)
    (h : FloC P ops S cs (k + 1) rest (a.put o.dst undef) C) : FloC P ops S cs k (o :: rest) a C := by
  unfold FloC
  rw [if_neg (by rw [hc]; decide)]
  exact ⟨undef, ⟨hb, .inr ⟨hw, rfl⟩⟩, h⟩
theorem FloC.nil {cs : List Nat} {k : Nat} {a : Act} {C : Act → Prop} (h : C a) : FloC P ops S cs k [] a C := h
theorem ChainRun.step {fin : Bool} {i : Nat} {r : List Nat} {a : Act} {w : World} {o : Oper} (hS : S w) (ho : ops[i]? = some o) (h : wpListIn F n P ops (fun e a' w' => match e with
    | .normal => a'.defers = a.defers ∧ ChainRun F n P ops Q S fin r a' w'
    | _ => False) [o] a w) : ChainRun F n P ops Q S fin (i :: r) a w := ⟨hS, o, ho, h⟩
theorem ChainRun.next {fin : Bool} {r : List Nat} {a a' : Act} {w : World} (hd : a'.defers = a.defers) (h : ChainRun F n P ops Q S fin r a' w) : wpListIn F n P ops (fun e a' w' => match e with
    | .normal => a'.defers = a.defers ∧ ChainRun F n P ops Q S fin r a' w'
    | _ => False) [] a' w := ⟨hd, h⟩
theorem ChainRun.last {a : Act} {w : World} (h : Q .normal a w) : ChainRun F n P ops Q S true [] a w := ⟨h, .inl rfl⟩
theorem ChainRun.done {fin : Bool} {a : Act} {w : World} (h : Q .normal a w) (hS : S w) : ChainRun F n P ops Q S fin [] a w := ⟨h, .inr hS⟩
/-- .. of the plain walk -/
theorem wp_region_chain {id : Nat} {a : Act} {w : World} (cs : List Nat) (fin : Bool) (hm : P.follows .mixedOrders = true) (hok : chainOk ops cs = true) (hnd : decide cs.Nodup = true) (hfin : (!fin || finOk ops cs) = true) (S : World → Prop)
    (h : FloC P ops S cs 0 ops.toList a (fun a' => ChainRun Fence.wide 0 P ops Q S fin cs a' w.drew)) : (Code.region id ops true).wp P Q a w :=
  wpIn_wide.1 (wpIn_region_chain (F := Fence.wide) (n := 0) cs fin hm hok hnd hfin S h)
end
end Go.Proofs.Ytoijpjmkjhoiaaa
