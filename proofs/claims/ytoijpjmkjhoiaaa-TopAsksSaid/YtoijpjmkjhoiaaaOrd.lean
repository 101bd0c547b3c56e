/-
  A law for a region that draws its order and whose calls make memory: ONE order of the prover's, if each operation waits for the last of the others ahead of it there (the 'drivers'), and the rest only read what stays ('stable'). Condition: the region's own edges say so (a closed fact).
-/
import Derived.Test.YtoijpjmkjhoiaaaChain
namespace Go.Proofs.Ytoijpjmkjhoiaaa
set_option linter.unusedVariables false
set_option linter.unusedSimpArgs false
open Go.RowKit
section
variable {F : Fence} {n : Nat} {P : Program} {ops : Array Oper} {Q : Exit → Act → World → Prop}
/-- the prover's order -/
def OrdRun (F : Fence) (n : Nat) (P : Program) (ops : Array Oper) (Q : Exit → Act → World → Prop) (st : List Nat) : List Nat → Act → World → Prop
  | [], a, w => Q .normal a w
  | i :: r, a, w => ∃ o, ops[i]? = some o ∧ ((st.contains i = true ∧ ∃ v, DetP P ops (fun W => Below w.heap.size w W) o v a ∧ OrdRun F n P ops Q st r (a.put o.dst v) w) ∨
      (st.contains i = false ∧ wpListIn F n P ops (fun e a' w' => match e with
        | .normal => a'.defers = a.defers ∧ Below w.heap.size w w' ∧ OrdRun F n P ops Q st r a' w'
        | _ => False) [o] a w))
def ordOk (ops : Array Oper) (st ord : List Nat) : Bool :=
  floatOk ops && (List.range ops.size).all (fun i => ord.contains i) && decide ord.Nodup && (List.range ord.length).all fun q => match ops[ord.getD q 0]? with
    | none => false
    | some o => noDefer o && o.after.all (fun e => !Region.binds .any e || (ord.take q).contains e.on) && (List.range q).all fun m => st.contains (ord.getD m 0) || o.after.any fun e => Region.binds .any e && ((ord.take q).drop m).contains e.on
theorem ordOk_parts {st ord : List Nat} (h : ordOk ops st ord = true) : floatOk ops = true ∧ (∀ i, i < ops.size → i ∈ ord) ∧ ord.Nodup ∧
    ∀ p i r, ord = p ++ i :: r → ∃ o, ops[i]? = some o ∧ noDefer o = true ∧ (∀ e ∈ o.after, Region.binds .any e = true → e.on ∈ p) ∧ ∀ p1 d p2, p = p1 ++ d :: p2 → st.contains d = false → ∃ e ∈ o.after, Region.binds .any e = true ∧ e.on ∈ d :: p2 := by
  unfold ordOk at h
  simp only [Bool.and_eq_true] at h
  obtain ⟨⟨⟨h1, h2⟩, h3⟩, h4⟩ := h
  refine ⟨h1, fun i hi => by simpa using List.all_eq_true.1 h2 i (List.mem_range.2 hi), by simpa using h3, fun p i r hp => ?_⟩
  have h5 := List.all_eq_true.1 h4 p.length (List.mem_range.2 (by rw [hp]; simp))
  have e1 : ord.getD p.length 0 = i := by rw [hp]; simp
  have e2 : ord.take p.length = p := by rw [hp]; simp
  rw [e1, e2] at h5
  cases ho : ops[i]? with
  | none => rw [ho] at h5; cases h5
  | some o =>
    rw [ho] at h5
    simp only [Bool.and_eq_true] at h5
    obtain ⟨⟨h6, h7⟩, h8⟩ := h5
    refine ⟨o, rfl, h6, fun e he hb => ?_, fun p1 d p2 hp1 hd => ?_⟩
    · have := (Array.all_eq_true_iff_forall_mem.1 h7) e he
      rw [hb] at this
      simpa using this
    · have h9 := List.all_eq_true.1 h8 p1.length (List.mem_range.2 (by rw [hp1]; simp))
      have e3 : ord.getD p1.length 0 = d := by rw [hp, hp1]; simp
      have e4 : p.drop p1.length = d :: p2 := by rw [hp1]; simp
      rw [e3, e4, hd, Bool.false_or] at h9
      obtain ⟨e, he, hb⟩ := Array.any_eq_true'.1 h9
      simp only [Bool.and_eq_true] at hb
      exact ⟨e, he, hb.1, by simpa using hb.2⟩
theorem nodup_sep {l1 l2 : List Nat} (h : (l1 ++ l2).Nodup) {x : Nat} (h1 : x ∈ l1) (h2 : x ∈ l2) : False := (List.nodup_append.1 h).2.2 x h1 x h2 rfl
theorem DetP.mono {S S' : World → Prop} {o : Oper} {v : Value} {a : Act} (h : DetP P ops S o v a) (hS : ∀ w, S' w → S w) : DetP P ops S' o v a :=
  ⟨fun w hw => h.1 w (hS w hw), h.2.imp (fun x => ⟨x.1, fun w hw => x.2 w (hS w hw)⟩) id⟩
/-- how far the prover's order has come, and the region -/
structure OrdSt (F : Fence) (n : Nat) (P : Program) (ops : Array Oper) (Q : Exit → Act → World → Prop) (st ord : List Nat) (a : Act) (L : Array Bool) (w : World) (vs : Nat → Value) (pre rest : List Nat) : Prop where
  split : ord = pre ++ rest
  no : ∀ j ∈ rest, L.getD j false = false
  drv : ∀ j ∈ pre, st.contains j = false → L.getD j false = true
  det : ∀ p1 j p2, pre = p1 ++ j :: p2 → L.getD j false = false → ∀ o, ops[j]? = some o → DetP P ops (fun W => Below w.heap.size w W) o (vs j) (actS ops vs a (fun i => p1.contains i) ops.size)
  run : OrdRun F n P ops Q st rest (actS ops vs a (fun i => pre.contains i) ops.size) w
theorem put_in {vs : Nat → Value} {a : Act} (hfo : floatOk ops = true) {i : Nat} {o : Oper} (ho : ops[i]? = some o) (v : Value) {M N : Nat → Bool} (hM : M i = false) (hN : N i = true) (hne : ∀ j, j ≠ i → N j = M j) :
    (actS ops vs a M ops.size).put o.dst v = actS ops (fun j => if j = i then v else vs j) a N ops.size := by
  have hlt : i < ops.size := (Array.getElem?_eq_some_iff.1 ho).1
  have := actS_put (vs := fun j => if j = i then v else vs j) (a := a) hfo ho hM hN hne _ hlt
  rw [actS_vals (vs := fun j => if j = i then v else vs j) (vs' := vs) _ (fun j _ hj => by
    by_cases e : j = i
    · rw [e, hM] at hj; cases hj
    · simp [e])] at this
  simpa using this
theorem vals_out {vs : Nat → Value} {a : Act} {i : Nat} (v : Value) {M : Nat → Bool} (hM : M i = false) : actS ops (fun j => if j = i then v else vs j) a M ops.size = actS ops vs a M ops.size :=
  actS_vals _ (fun j _ hj => by
    by_cases e : j = i
    · rw [e, hM] at hj; cases hj
    · simp [e])
theorem contains_snoc (p : List Nat) (i j : Nat) (h : j ≠ i) : (p ++ [i]).contains j = p.contains j := by
  simp [h]
/-- over a stable one -/
theorem OrdSt.adv {st ord : List Nat} (hok : ordOk ops st ord = true) {a : Act} {L : Array Bool} {w : World} {vs : Nat → Value} {pre r : List Nat} {i : Nat} (h : OrdSt F n P ops Q st ord a L w vs pre (i :: r)) (hi : st.contains i = true) :
    ∃ vs', OrdSt F n P ops Q st ord a L w vs' (pre ++ [i]) r ∧ actS ops vs' a (fun j => L.getD j false) ops.size = actS ops vs a (fun j => L.getD j false) ops.size := by
  obtain ⟨hfo, -, hnd, hop⟩ := ordOk_parts hok
  have hnd2 := hnd
  rw [h.split] at hnd2
  have hip : i ∉ pre := fun hm => (nodup_sep hnd2) hm (by simp)
  obtain ⟨o, ho, hrun⟩ := h.run
  rcases hrun with ⟨-, v, hd, hr⟩ | ⟨h', -⟩
  · have hpc : pre.contains i = false := by simpa using hip
    refine ⟨fun j => if j = i then v else vs j, ⟨by rw [h.split]; simp, fun j hj => h.no j (by simp [hj]), fun j hj hs => ?_, fun p1 j p2 hp hL o' ho' => ?_, ?_⟩, vals_out v (h.no i (by simp))⟩
    · rcases List.mem_append.1 hj with hj | hj
      · exact h.drv j hj hs
      · rw [List.mem_singleton.1 hj, hi] at hs; cases hs
    · rcases List.eq_nil_or_concat p2 with rfl | ⟨p2', x, rfl⟩
      · have hpj := List.append_inj' hp rfl
        obtain rfl : pre = p1 := hpj.1
        obtain rfl : i = j := by simpa using hpj.2
        rw [ho] at ho'
        cases ho'
        rw [vals_out v hpc]
        show DetP P ops _ o (if i = i then v else vs i) _
        rw [if_pos rfl]
        exact hd
      · rw [List.concat_eq_append] at hp
        have hpj := List.append_inj' (s₁ := pre) (t₁ := [i]) (s₂ := p1 ++ j :: p2') (t₂ := [x]) (by rw [hp]; simp) rfl
        have hji : j ≠ i := fun e => hip (by rw [hpj.1, ← e]; simp)
        have hp1 : p1.contains i = false := by
          have : i ∉ p1 := fun hm => hip (by rw [hpj.1]; simp [hm])
          simpa using this
        rw [vals_out v hp1]
        show DetP P ops _ o' (if j = i then v else vs j) _
        rw [if_neg hji]
        exact h.det p1 j p2' hpj.1 hL o' ho'
    · rw [put_in hfo ho v (M := fun j => pre.contains j) (N := fun j => (pre ++ [i]).contains j) hpc (by simp) (fun j hj => contains_snoc pre i j hj)] at hr
      exact hr
  · rw [hi] at h'; cases h'
/-- up to one that has come up -/
theorem OrdSt.upto {st ord : List Nat} (hok : ordOk ops st ord = true) {a : Act} {L : Array Bool} {w : World} {i : Nat} : ∀ (r1 : List Nat) {vs : Nat → Value} {pre r2 : List Nat}, OrdSt F n P ops Q st ord a L w vs pre (r1 ++ i :: r2) → (∀ j ∈ r1, st.contains j = true) →
    ∃ vs', OrdSt F n P ops Q st ord a L w vs' (pre ++ r1) (i :: r2) ∧ actS ops vs' a (fun j => L.getD j false) ops.size = actS ops vs a (fun j => L.getD j false) ops.size
  | [], vs, pre, r2, h, _ => ⟨vs, by simpa using h, rfl⟩
  | x :: r1, vs, pre, r2, h, hs => by
    obtain ⟨vs1, h1, e1⟩ := OrdSt.adv hok (r := r1 ++ i :: r2) h (hs x (by simp))
    obtain ⟨vs2, h2, e2⟩ := OrdSt.upto hok r1 h1 (fun j hj => hs j (by simp [hj]))
    exact ⟨vs2, by simpa using h2, e2.trans e1⟩
theorem ord_any {st ord : List Nat} (hok : ordOk ops st ord = true) (a : Act) :
    ∀ (fuel : Nat) (L : Array Bool) (w : World) (vs : Nat → Value) (pre rest : List Nat), L.size = ops.size → closedL ops L → cntF (fun j => L.getD j false) ops.size ≤ fuel → OrdSt F n P ops Q st ord a L w vs pre rest →
      wpAnyIn F n P .any ops Q fuel L (actS ops vs a (fun j => L.getD j false) ops.size) w := by
  obtain ⟨hfo, hall, hnd, hop⟩ := ordOk_parts hok
  have hend : ∀ (L : Array Bool) (w : World) (vs : Nat → Value) (pre rest : List Nat), OrdSt F n P ops Q st ord a L w vs pre rest → (∀ i, i < ops.size → L.getD i false = true) → Q .normal (actS ops vs a (fun j => L.getD j false) ops.size) w := by
    intro L w vs pre rest h hL
    cases rest with
    | cons c r =>
      obtain ⟨o, ho, -⟩ := h.run
      have h1 := h.no c (by simp)
      rw [hL c (Array.getElem?_eq_some_iff.1 ho).1] at h1
      cases h1
    | nil =>
      have hp : ord = pre := by have := h.split; simpa using this
      have hr : Q .normal (actS ops vs a (fun i => pre.contains i) ops.size) w := h.run
      rw [actS_all _ (fun j hj => by have := hall j hj; rw [hp] at this; simpa using this)] at hr
      rw [actS_all _ hL]
      exact hr
  intro fuel
  induction fuel with
  | zero =>
    intro L w vs pre rest hs hc hn h
    have hal := cntF_zero _ (Nat.le_zero.1 hn)
    refine ⟨?_, hend L w vs pre rest h hal⟩
    cases hr : Region.ready .any ops L with
    | nil => rfl
    | cons i r =>
      have hi : i ∈ Region.ready .any ops L := by rw [hr]; simp
      obtain ⟨h0, o, ho, -⟩ := mem_ready.1 hi
      have hlt : i < ops.size := (Array.getElem?_eq_some_iff.1 ho).1
      have := hal i hlt
      simp [hs, hlt] at h0 this
      rw [h0] at this
      cases this
  | succ fuel ih =>
    intro L w vs pre rest hs hc hn h
    refine ⟨fun hr => hend L w vs pre rest h (ready_none hfo hr hs), fun i hi => ?_⟩
    obtain ⟨h0, o, ho, hafter⟩ := mem_ready.1 hi
    have hlt : i < ops.size := (Array.getElem?_eq_some_iff.1 ho).1
    have hLi : L.getD i false = false := by simpa [hs, hlt] using h0
    have hset : ∀ j, (L.setIfInBounds i true).getD j false = if j = i then true else L.getD j false := fun j => by
      by_cases e : j = i
      · subst e; simp [hs, hlt]
      · rw [if_neg e, getD_set_ne false (fun e' => e e'.symm)]
    have hcl' : closedL ops (L.setIfInBounds i true) := by
      intro j oj hoj hj e he hb
      rw [hset] at hj ⊢
      split
      · rfl
      · by_cases e' : j = i
        · subst e'
          rw [hoj] at ho
          cases ho
          exact hafter e he hb
        · rw [if_neg e'] at hj
          exact hc j oj hoj hj e he hb
    have hcnt' : cntF (fun j => (L.setIfInBounds i true).getD j false) ops.size ≤ fuel := by
      have := cntF_set (L := fun j => L.getD j false) (M := fun j => (L.setIfInBounds i true).getD j false) (i := i) hLi (by simp [hset]) (fun j hj => by simp [hset, hj]) ops.size hlt
      omega
    have hsel := floatOk_sel hfo ho
    -- it is met where the prover's order has come to it
    have key : ∃ vs' p r, OrdSt F n P ops Q st ord a L w vs' p r ∧ actS ops vs' a (fun j => L.getD j false) ops.size = actS ops vs a (fun j => L.getD j false) ops.size ∧ (i ∈ p ∨ (st.contains i = false ∧ ∃ r', r = i :: r')) := by
      have him := hall i hlt
      rw [h.split] at him
      rcases List.mem_append.1 him with hm | hm
      · exact ⟨vs, pre, rest, h, rfl, .inl hm⟩
      · obtain ⟨r1, r2, rfl⟩ := List.append_of_mem hm
        have hst : ∀ j ∈ r1, st.contains j = true := by
          intro d hd
          cases hsd : st.contains d with
          | true => rfl
          | false =>
            exfalso
            obtain ⟨q1, q2, rfl⟩ := List.append_of_mem hd
            obtain ⟨o', ho', -, -, h4⟩ := hop (pre ++ (q1 ++ d :: q2)) i r2 (by rw [h.split]; simp)
            rw [ho] at ho'
            cases ho'
            obtain ⟨e, he, hb, hon⟩ := h4 (pre ++ q1) d q2 (by simp) hsd
            have e1 := hafter e he hb
            rw [h.no e.on (by
              simp only [List.mem_append, List.mem_cons] at hon ⊢
              rcases hon with hon | hon
              · exact .inl (.inr (.inl hon))
              · exact .inl (.inr (.inr hon)))] at e1
            cases e1
        obtain ⟨vs1, h1, e1⟩ := OrdSt.upto hok r1 h hst
        cases hsi : st.contains i with
        | false => exact ⟨vs1, pre ++ r1, i :: r2, h1, e1, .inr ⟨rfl, r2, rfl⟩⟩
        | true =>
          obtain ⟨vs2, h2, e2⟩ := OrdSt.adv hok h1 hsi
          exact ⟨vs2, pre ++ r1 ++ [i], r2, h2, e2.trans e1, .inl (by simp)⟩
    obtain ⟨vs, pre, rest, h, e0, hcase⟩ := key
    rw [← e0]
    clear e0
    -- what it looks at is the same in both frames
    have hslot : ∀ p r, ord = p ++ i :: r → ∀ t ∈ o.looksAt ops, (actS ops vs a (fun j => L.getD j false) ops.size).tmps[t]? = (actS ops vs a (fun j => p.contains j) ops.size).tmps[t]? := by
      intro p r hp t ht
      obtain ⟨o', ho', -, h3, -⟩ := hop p i r hp
      rw [ho] at ho'
      cases ho'
      have hnd2 := hnd
      rw [hp] at hnd2
      refine actS_slot _ (fun j hj hdj => ?_)
      by_cases hij : i = j
      · subst hij
        rw [hLi]
        have : i ∉ p := fun hm => (nodup_sep hnd2) hm (by simp)
        simpa using this
      · rcases (floatOk_spec hfo ho hdj hij).2 ht with ⟨-, e, he, hb, hon⟩ | ⟨-, oj, hoj, e, he, hb, hon⟩
        · have e1 := hafter e he hb
          have e2 := h3 e he hb
          rw [hon] at e1 e2
          rw [e1]
          simpa using e2
        · have e1 : L.getD j false = false := by
            cases hl : L.getD j false with
            | false => rfl
            | true =>
              have := hc j oj hoj hl e he hb
              rw [hon, hLi] at this
              cases this
          rw [e1]
          have : j ∉ p := fun hm => by
            obtain ⟨p1, p2, rfl⟩ := List.append_of_mem hm
            obtain ⟨o', ho', -, h4, -⟩ := hop p1 j (p2 ++ i :: r) (by rw [hp]; simp)
            rw [hoj] at ho'
            cases ho'
            have h5 := h4 e he hb
            rw [hon] at h5
            exact (nodup_sep hnd2) (by simp [h5]) (by simp : i ∈ i :: r)
          simpa using this
    rcases hcase with hip | ⟨hsi, r', rfl⟩
    · -- it only reads
      obtain ⟨p1, p2, rfl⟩ := List.append_of_mem hip
      obtain ⟨hd1, hd2⟩ := h.det p1 i p2 rfl hLi o ho
      have hnd' : ∀ c, o.op ≠ .defer c := by
        obtain ⟨o', ho', hnf, -⟩ := hop p1 i (p2 ++ rest) (by rw [h.split]; simp)
        rw [ho] at ho'
        cases ho'
        exact fun c hx => by simp [noDefer, hx] at hnf
      obtain ⟨g1, g2, g3⟩ := DetP.same (P := P) (v := undef) hsel (hslot p1 (p2 ++ rest) (by rw [h.split]; simp))
      have hact : (actS ops vs a (fun j => L.getD j false) ops.size).put o.dst (vs i) = actS ops vs a (fun j => (L.setIfInBounds i true).getD j false) ops.size :=
        actS_put hfo ho (by exact hLi) (by simp [hset]) (fun j hj => by simp [hset, hj]) _ hlt
      have hir : i ∉ rest := fun hm => by
        have hnd2 := hnd
        rw [h.split] at hnd2
        exact (nodup_sep hnd2) (by simp) hm
      have hnext : wpAnyIn F n P .any ops Q fuel (L.setIfInBounds i true) ((actS ops vs a (fun j => L.getD j false) ops.size).put o.dst (vs i)) w := by
        rw [hact]
        refine ih (L.setIfInBounds i true) w vs _ rest (by simpa using hs) hcl' hcnt' ⟨h.split, fun j hj => ?_, fun j hj hsj => ?_, fun q1 j q2 hq hL o' ho' => ?_, h.run⟩
        · rw [hset, if_neg (fun e => hir (by rw [← e]; exact hj))]
          exact h.no j hj
        · rw [hset]
          split
          · rfl
          · exact h.drv j hj hsj
        · rw [hset] at hL
          split at hL
          · cases hL
          · exact h.det q1 j q2 hq hL o' ho'
      unfold wpOpIn
      simp only [ho]
      have hSw : Below w.heap.size w w := Below.refl _ _
      have hab : ∀ f, o.about P w (actS ops vs a (fun j => L.getD j false) ops.size).eval = some f → F.fn f := fun f hf => by rw [g3 w, hd1 w hSw] at hf; cases hf
      rcases hd2 with ⟨hw, hv⟩ | ⟨hw, hv⟩
      · rw [if_pos (by rw [g2]; exact hw)]
        unfold Oper.wpIn
        refine ⟨hab, ?_⟩
        rw [Oper.semAt_eq _ _ _ hnd', g1, hv w hSw]
        exact hnext
      · rw [if_neg (by rw [g2, hw]; decide)]
        exact ⟨hab, by rw [← hv]; exact hnext⟩
    · -- a driver
      obtain ⟨o', ho', hrun⟩ := h.run
      rw [ho] at ho'
      cases ho'
      rcases hrun with ⟨hx, -⟩ | ⟨-, hrun⟩
      · rw [hsi] at hx; cases hx
      · obtain ⟨o', ho', hnf, -⟩ := hop pre i r' h.split
        rw [ho] at ho'
        cases ho'
        have hnd2 := hnd
        rw [h.split] at hnd2
        have hip : i ∉ pre := fun hm => (nodup_sep hnd2) hm (by simp)
        have hipc : pre.contains i = false := by simpa using hip
        have hir : i ∉ r' := (List.nodup_cons.1 (List.nodup_append.1 hnd2).2.1).1
        refine chain_step ho hsel hnf (hslot pre r' h.split) hrun (fun v w1 hR => ?_)
        obtain ⟨hbl, hR⟩ := hR
        rw [put_in hfo ho v (M := fun j => L.getD j false) (N := fun j => (L.setIfInBounds i true).getD j false) hLi (by simp [hset]) (fun j hj => by simp [hset, hj])]
        rw [put_in hfo ho v (M := fun j => pre.contains j) (N := fun j => (pre ++ [i]).contains j) hipc (by simp) (fun j hj => contains_snoc pre i j hj)] at hR
        refine ih (L.setIfInBounds i true) w1 _ (pre ++ [i]) r' (by simpa using hs) hcl' hcnt' ⟨by rw [h.split]; simp, fun j hj => ?_, fun j hj hsj => ?_, fun q1 j q2 hq hL o' ho' => ?_, hR⟩
        · rw [hset, if_neg (fun e => hir (by rw [← e]; exact hj))]
          exact h.no j (by simp [hj])
        · rw [hset]
          split
          · rfl
          · rename_i hne
            rcases List.mem_append.1 hj with hj | hj
            · exact h.drv j hj hsj
            · exact absurd (by simpa using hj) hne
        · rw [hset] at hL
          split at hL
          · cases hL
          · rename_i hji
            rcases List.eq_nil_or_concat q2 with rfl | ⟨q2', x, rfl⟩
            · have hpj := List.append_inj' hq rfl
              exact absurd (by simpa using hpj.2.symm) hji
            · rw [List.concat_eq_append] at hq
              have hpj := List.append_inj' (s₁ := pre) (t₁ := [i]) (s₂ := q1 ++ j :: q2') (t₂ := [x]) (by rw [hq]; simp) rfl
              have hq1 : q1.contains i = false := by
                have : i ∉ q1 := fun hm => hip (by rw [hpj.1]; simp [hm])
                simpa using this
              rw [vals_out v hq1]
              show DetP P ops _ o' (if j = i then v else vs j) _
              rw [if_neg hji]
              exact (h.det q1 j q2' hpj.1 hL o' ho').mono (S' := fun W => Below w1.heap.size w1 W) (fun W hW => hbl.trans (hW.mono hbl.size))
/-- THE LAW -/
theorem wpIn_region_ord {id : Nat} {a : Act} {w : World} (st ord : List Nat) (hm : P.follows .mixedOrders = true) (hok : ordOk ops st ord = true)
    (h : OrdRun F n P ops Q st ord a w.drew) : (Code.region id ops true).wpIn F n P Q a w := by
  refine wpIn_region_any hm ?_
  have e : ∀ k, actS ops (fun _ => undef) a (fun j => (Array.replicate ops.size false).getD j false) k = a := by
    intro k
    induction k with
    | zero => rfl
    | succ k ih =>
      unfold actS
      rw [ih, if_neg]
      by_cases hk : k < ops.size <;> simp [hk]
  have e2 : ∀ k, actS ops (fun _ => undef) a (fun i => ([] : List Nat).contains i) k = a := by
    intro k
    induction k with
    | zero => rfl
    | succ k ih =>
      unfold actS
      rw [ih, if_neg (by simp)]
  have h4 := ord_any (F := F) (n := n) (P := P) (Q := Q) hok a ops.size (Array.replicate ops.size false) w.drew (fun _ => undef) [] ord (by simp) (by
      intro j oj hoj hj
      have hlt : j < ops.size := (Array.getElem?_eq_some_iff.1 hoj).1
      simp [hlt] at hj) (by
      have : ∀ k, cntF (fun j => (Array.replicate ops.size false).getD j false) k ≤ k := by
        intro k
        induction k with
        | zero => simp [cntF]
        | succ k ih => unfold cntF; split <;> omega
      exact this _) ⟨rfl, fun j hj => by
        by_cases hk : j < ops.size <;> simp [hk], fun j hj => (by cases hj), fun p1 j p2 hp => (by cases p1 <;> cases hp), by rw [e2]; exact h⟩
  rw [e] at h4
  exact h4
theorem wp_region_ord {id : Nat} {a : Act} {w : World} (st ord : List Nat) (hm : P.follows .mixedOrders = true) (hok : ordOk ops st ord = true)
    (h : OrdRun Fence.wide 0 P ops Q st ord a w.drew) : (Code.region id ops true).wp P Q a w :=
  wpIn_wide.1 (wpIn_region_ord (F := Fence.wide) (n := 0) st ord hm hok h)
theorem OrdRun.nil {st : List Nat} {a : Act} {w : World} (h : Q .normal a w) : OrdRun F n P ops Q st [] a w := h
theorem OrdRun.val {st : List Nat} {i : Nat} {r : List Nat} {a : Act} {w : World} {o : Oper} {v : Value} (hc : st.contains i = true) (ho : ops[i]? = some o) (hb : ∀ W, o.about P W a.eval = none) (hw : Region.wanted o (yielded ops a.tmps) = true)
    (hd : ∀ W, Below w.heap.size w W → (execOp a.eval o).run P W = .ok (.value v) W) (h : OrdRun F n P ops Q st r (a.put o.dst v) w) : OrdRun F n P ops Q st (i :: r) a w :=
  ⟨o, ho, .inl ⟨hc, v, ⟨fun W _ => hb W, .inl ⟨hw, hd⟩⟩, h⟩⟩
theorem OrdRun.skip {st : List Nat} {i : Nat} {r : List Nat} {a : Act} {w : World} {o : Oper} (hc : st.contains i = true) (ho : ops[i]? = some o) (hb : ∀ W, o.about P W a.eval = none) (hw : Region.wanted o (yielded ops a.tmps) = false)
    (h : OrdRun F n P ops Q st r (a.put o.dst undef) w) : OrdRun F n P ops Q st (i :: r) a w :=
  ⟨o, ho, .inl ⟨hc, undef, ⟨fun W _ => hb W, .inr ⟨hw, rfl⟩⟩, h⟩⟩
theorem OrdRun.drive {st : List Nat} {i : Nat} {r : List Nat} {a : Act} {w : World} {o : Oper} (hc : st.contains i = false) (ho : ops[i]? = some o) (h : wpListIn F n P ops (fun e a' w' => match e with
      | .normal => a'.defers = a.defers ∧ Below w.heap.size w w' ∧ OrdRun F n P ops Q st r a' w'
      | _ => False) [o] a w) : OrdRun F n P ops Q st (i :: r) a w := ⟨o, ho, .inr ⟨hc, h⟩⟩
theorem OrdRun.next {st : List Nat} {r : List Nat} {a a' : Act} {w w' : World} (hd : a'.defers = a.defers) (hb : Below w.heap.size w w') (h : OrdRun F n P ops Q st r a' w') : wpListIn F n P ops (fun e a' w' => match e with
      | .normal => a'.defers = a.defers ∧ Below w.heap.size w w' ∧ OrdRun F n P ops Q st r a' w'
      | _ => False) [] a' w' := ⟨hd, hb, h⟩
end
end Go.Proofs.Ytoijpjmkjhoiaaa
