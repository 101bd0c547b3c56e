/-
  The walk of RequestExact: a payload with one attribute more, or without its last one, or without its first token, is refused. Conditions: no text beyond the reach; the library's variables are as they were laid.
-/
import Derived.Test.YtmapinediglimaaDoorRqLive
import Derived.Test.YtmapinediglimaaDoorXiA
import Derived.Test.YtmapinediglimaaDoorOpenTk
namespace Go.Proofs.YtmapinediglimaaDoor
set_option linter.unusedVariables false
set_option linter.unusedSimpArgs false
open Go.RowKit Go.MapKept
theorem dep_of {o : Oper} {L : Nat → Bool} (h : ∀ e ∈ o.after, Region.binds .any e = true → L e.on = true) (k : Nat) (hk : (o.after.any fun e => Region.binds .any e && e.on == k) = true) : L k = true := by
  obtain ⟨e, he, hb⟩ := Array.any_eq_true'.1 hk
  simp only [Bool.and_eq_true, beq_iff_eq] at hb
  have := h e he hb.1
  rwa [hb.2] at this
theorem not_of {ops : Array Oper} {L : Nat → Bool} (h : ∀ j oj, ops[j]? = some oj → L j = true → ∀ e ∈ oj.after, Region.binds .any e = true → L e.on = true) (j k : Nat) (hk : L k = false) (he : ((ops[j]?).any fun o => o.after.any fun e => Region.binds .any e && e.on == k) = true) : L j = false := by
  cases hj : L j with
  | false => rfl
  | true =>
    cases ho : ops[j]? with
    | none => rw [ho] at he; cases he
    | some o =>
      rw [ho] at he
      have := dep_of (fun e => h j o ho hj e) k he
      rw [hk] at this
      cases this
/-- a copy of tokens: append to an empty slice -/
theorem copy_at (W : World) (v : Value) (l : List Tk) (hT : TkS W v l) (h0 : 0 < l.length) (hl : l.length ≤ 1000) :
    ∃ g c w', (Builtin.append_ #[27, 27] 27 #[.slice (some ⟨W.heap.size, 0, none⟩) 0 0, v]).run Tryd.prog (W.alloc (.cells #[] 39)) = .ok (.slice (some ⟨g, 0, none⟩) l.length c) w' ∧ CpT W w' (.slice (some ⟨g, 0, none⟩) l.length c) l := by
  obtain ⟨i0, hi, hz0, hz1, hz2⟩ := info_parts infoT
  obtain ⟨ps, hm, hp, h⟩ := hT.pairs
  have hpl : ps.length = l.length := by rw [← hm, List.length_map]
  rcases h with ⟨-, rfl⟩ | ⟨ad, c0, rfl, hnews⟩
  · simp at hpl; omega
  have hO : (W.alloc (.cells #[] 39)).ownsRow W.heap.size 39 4 (.slice (some ⟨W.heap.size, 0, none⟩) 0 0) 0 [] := ⟨rfl, .inr ⟨W.heap.size, 0, #[], rfl, Nat.le_refl _, bare_nil _ _, Nat.le_refl _, by simp, rfl, rfl⟩⟩
  have hn : ∀ j u, (tkCells ps)[j]? = some u → (W.alloc (.cells #[] 39)).cell? (ad.add j) = some u := fun j u hj => by
    have h1 := hnews j u hj
    have hb : (ad.add j).block < W.heap.size := by
      rcases Nat.lt_or_ge (ad.add j).block W.heap.size with h | h
      · exact h
      · exfalso
        unfold World.cell? at h1
        rw [Array.getElem?_eq_none h] at h1
        cases h1
    exact ((below1 W _).cell hb).trans h1
  obtain ⟨v', w', hrun, hown, hgr, _, _⟩ := run_append_own_at (P := Tryd.prog) _ W.heap.size 27 27 39 i0 _ 4 64 Tryd.underlying27 hi hz0 hz1 hz2 rfl (by decide) _ _ _ hO ad ps.length c0 (tkCells ps) (tkCells_len ps) hn (tkCells_one ps (fun p hpm => by obtain ⟨a, c, h, -⟩ := hp p hpm; exact ⟨_, _, _, h⟩)) (by unfold maxLen; omega) (by omega) (by simp)
  rw [Nat.zero_add, List.nil_append, hpl] at hown
  obtain ⟨g, c, rfl, -, -⟩ := owns_head hown h0
  refine ⟨g, c, w', hrun, ps, g, c, rfl, hm, hp, hown, (below1 W _).grown hgr (by simp) (fun k hk => by cases hk; exact Nat.le_refl _)⟩
theorem wanted_none {o : Oper} (h : o.guard = none) (f : Nat → Option Bool) : Region.wanted o f = true := by unfold Region.wanted; rw [h]
theorem run_append_op {P : Program} {o : Oper} {ev : Operand → Value} {s x : Operand} {t : TypeId} {v u v' : Value} {w w' : World} (ho : o.op = .call { callee := .builtin .append, args := #[s, x], argTypes := #[t, t] }) (hs : ev s = v) (hx : ev x = u)
    (hrun : (Builtin.append_ #[t, t] o.type #[v, u]).run P w = .ok v' w') : (execOp ev o).run P w = .ok (.value v') w' := by
  unfold execOp
  simp only [ho, resolve, invoke, builtin, Sem.run_bind, Sem.run_pure, Result.andThen_ok, List.map_toArray, List.map_cons, List.map_nil, hs, hx, hrun]
/-- what the operations that read alone hand back -/
def cXi (v7 v5 p38 p39 va xy p45 p46 : Value) : Nat → Value
  | 0 => v7 | 2 => v5 | 3 => p38 | 4 => p39 | 5 => va | 7 => xy | 10 => p45 | 11 => p46 | _ => undef
set_option maxRecDepth 100000 in
set_option maxHeartbeats 8000000 in
theorem requestExact_go (r : Rq) (x y : List UInt8) (w : World) (hr : r.small) (hx : x.length ≤ 140737488351232) (hy : y.length ≤ 140737488351232) (hT : Tabs w) :
    Calls Tryd.prog 4 #[rqV r, .agg #[.string ⟨x.toArray⟩, .string ⟨y.toArray⟩]] w fun e w' => e = .returned (.bool true) ∧ Below w.heap.size w w' := by
  have hE1 : Hid (∀ W, Below w.heap.size w W → Calls Tryd.prog 7 #[rqV r] W fun e w' => ∃ v, e = .returned (.tuple #[v, .int .i64 (errQ (rightR r))]) ∧ TkS w' v (encR r) ∧ Below W.heap.size W w') := Lib.hid fun W h => enc_any r W hr (hT.pow.below h)
  have hLv : Hid (∀ W, Below w.heap.size w W → Calls Tryd.prog 8 #[] W fun e w' => e = .returned (.bool true) ∧ Below W.heap.size W w') := Lib.hid fun W h => live13_any W (hT.below h)
  have e3 : errQ false = 3 := rfl
  have e0 : errQ true = 0 := rfl
  have hB1 := Lib.hid (belowA (below1 w (.cells (rqC r) 26)) (.cells #[.string ⟨x.toArray⟩, .string ⟨y.toArray⟩] 35))
  have hA0 : Hid (((w.alloc (.cells (rqC r) 26)).alloc (.cells #[.string ⟨x.toArray⟩, .string ⟨y.toArray⟩] 35)).heap[w.heap.size + 1]? = some (.cells #[.string ⟨x.toArray⟩, .string ⟨y.toArray⟩] 35)) := Lib.hid (by have := bare_nil (w.alloc (.cells (rqC r) 26)) (.cells #[.string ⟨x.toArray⟩, .string ⟨y.toArray⟩] 35); simpa using this)
  generalize hrb : rightR r = rb at hE1
  replace hrb := Lib.hid hrb
  have hrq : rqV r = .agg (rqC r) := rfl
  rw [hrq] at hE1 ⊢
  unfold rqC at hE1 hB1 hA0 ⊢
  go_enter Tryd.func4, Tryd.ntmps4
  go_upto_region 1 with (fail)
  go_cut [5, 6] (fun v5 v6 W => v6 = .int .i64 (errQ rb) ∧ TkS W v5 (encR r) ∧ W.heap[w.heap.size + 1]? = some (.cells #[.string ⟨x.toArray⟩, .string ⟨y.toArray⟩] 35) ∧ Below w.heap.size w W)
  case first =>
    go_wp2_with (go_at_call 7; refine (hE1.out _ hB1.out).mono ?_; rintro e w1 ⟨v1, rfl, hv1, hb1⟩; have hO := Lib.hid ((hb1.block (w.heap.size + 1) (by simp)).trans hA0.out); have hB2 := Lib.hid (belowT hB1.out hb1); replace hv1 := Lib.hid hv1; replace hb1 := Lib.hid hb1)
    go_meet
    exact ⟨rfl, hv1.out, hO.out, hB2.out⟩
  case rest =>
    obtain ⟨rfl, hv5, hO, hB⟩ := hcut
    clear hE1 hB1 hA0
    cases rb
    · have hen : encR r = [] := by unfold encR; rw [hrb.out]; rfl
      rw [hen] at hv5
      replace hv5 := Lib.hid hv5
      replace hO := Lib.hid hO
      replace hB := Lib.hid hB
      replace hen := Lib.hid hen
      go_wp2_with (go_at_call 8; refine (hLv.out _ hB.out).mono ?_; rintro e w3 ⟨rfl, hb3⟩; replace hb3 := Lib.hid hb3)
      go_ret
      exact ⟨rfl, belowT hB.out hb3.out⟩
    · have hrr : rightR r = true := hrb.out
      have hen : encR r = toksR r := by unfold encR; rw [hrr]; rfl
      rw [hen] at hv5
      have hsm := toks_small hr hrr
      have hat := toks_at r
      have hN1 : 4 ≤ (toksR r).length := by rw [toks_len]; omega
      have hN2 : (toksR r).length ≤ 5 := by rw [toks_len]; unfold insideR; split <;> simp
      obtain ⟨b5, o5, c5, sv, rfl, hc5, hb5, hs5, hA5⟩ := hv5.second hat
      have hM0 : 0 < (attrsR r).length := by simp [attrsR]
      have hM1 : (attrsR r).length ≤ 10 := by unfold attrsR moreA; (repeat' split) <;> simp
      obtain ⟨ad, cs, rfl, hadb, hnews⟩ := ats_news hA5 hM0
      obtain ⟨g7, c7, w4, hrun4, hC4⟩ := copy_at wc _ _ hv5 (by omega) (by omega)
      generalize hNd : (toksR r).length = N at hN1 hN2 hc5 hrun4 hC4
      have hNi : ¬ (N : Int) < 4 := by omega
      have hN1i : (1 : Int) < (N : Int) := by omega
      generalize hMd : (attrsR r).length = M at hM0 hM1 hs5 hA5
      replace hv5 := Lib.hid hv5
      replace hO := Lib.hid hO
      replace hB := Lib.hid hB
      replace hen := Lib.hid hen
      replace hrr := Lib.hid hrr
      replace hsm := Lib.hid hsm
      replace hat := Lib.hid hat
      replace hA5 := Lib.hid hA5
      replace hnews := Lib.hid hnews
      replace hrun4 := Lib.hid hrun4
      replace hC4 := Lib.hid hC4
      replace hs5 := Lib.hid hs5
      go_upto_region 5 with (at_builtin; refine wpList_append_run _ w4 rfl _ _ 27 rfl _ _ _ rfl rfl hrun4.out ?_)
      have hCB : Below wc.heap.size wc w4 := by obtain ⟨_, _, _, _, _, _, _, h⟩ := hC4.out; exact h
      have hs4 := (hCB.cell (p := ⟨b5, o5 + 6, none⟩) hb5).trans hs5.out
      have hnews4 : Hid (∀ W', Below w4.heap.size w4 W' → ∀ j u, (atCells (attrsR r))[j]? = some u → W'.cell? (ad.add j) = some u) := Lib.hid fun W' hb => hnews.out W' (belowT hCB hb)
      have hO4l0 := (Array.getElem?_eq_some_iff.1 hO.out).1
      have hO4 := (hCB.block _ hO4l0).trans hO.out
      have hO4l := (Array.getElem?_eq_some_iff.1 hO4).1
      have hG4 : ∀ W, Below w4.heap.size w4 W → (∃ u, W.cell? ⟨g7, 6, none⟩ = some u) ∧ W.frozen? ⟨g7, 6, none⟩ = false ∧ g7 < W.heap.size := fun W hb => by
        obtain ⟨ps, g', c', e, hm, hp, hOw, -⟩ := hC4.out
        obtain ⟨e1, -, -⟩ := Value.slice.inj e
        have e1 := Option.some.inj e1
        injection e1 with e1 _ _
        subst e1
        have hpl : ps.length = N := by rw [← hNd, ← hm, List.length_map]
        rw [hNd] at hOw
        obtain ⟨u, h6⟩ : ∃ u, (tkCells ps)[6]? = some u := ⟨_, List.getElem?_eq_getElem (by rw [tkCells_len]; omega)⟩
        have hl := (hOw.lt g7 rfl).2
        exact ⟨⟨u, (hb.cell (p := ⟨g7, 6, none⟩) hl).trans ((hOw.cellAt 6 (by omega)).trans h6)⟩, (hb.frozen (p := ⟨g7, 6, none⟩) hl).trans (hOw.frozenAt 6), Nat.lt_of_lt_of_le hl hb.size⟩
      obtain ⟨W1, hW1⟩ : ∃ W1, W1 = wc := ⟨_, rfl⟩
      subst hW1
      go_cut [7] (fun v7 W => v7 = .slice (some ⟨g7, 0, none⟩) N c7 ∧ TkS W v7 ((toksR r).set 1 ⟨1, verbL r.vb, attrsR r ++ [(x, y)], []⟩) ∧ Below W1.heap.size W1 W)
      case first =>
        refine wp_region_inv (by kernel_rfl) (by kernel_rfl) (XI g7 w4 (cXi (.slice (some ⟨g7, 0, none⟩) N c7) (.slice (some ⟨b5, o5, none⟩) N c5) (.pointer (some ⟨b5, o5 + 4, none⟩)) (.pointer (some ⟨b5, o5 + 6, none⟩)) (.slice (some ad) M cs) (.agg #[.string ⟨x.toArray⟩, .string ⟨y.toArray⟩]) (.pointer (some ⟨g7, 4, none⟩)) (.pointer (some ⟨g7, 6, none⟩))) (attrsR r) x y) (fun _ => undef) (XI.start (Below.refl _ w4).drew) ?_ ?_
        intro i o L vs W hi hL hdep hcl hI
        have hlt : i < 13 := (by have := (Array.getElem?_eq_some_iff.1 hi).1; simpa using this)
        obtain rfl | rfl | rfl | rfl | rfl | rfl | rfl | rfl | rfl | rfl | rfl | rfl | rfl : i = 0 ∨ i = 1 ∨ i = 2 ∨ i = 3 ∨ i = 4 ∨ i = 5 ∨ i = 6 ∨ i = 7 ∨ i = 8 ∨ i = 9 ∨ i = 10 ∨ i = 11 ∨ i = 12 := by omega
        · simp only [List.getElem?_toArray, List.getElem?_cons_zero, List.getElem?_cons_succ, Option.some.injEq] at hi
          subst hi
          refine And.intro (wanted_none rfl _) ?_
          skip
          simp only [putT, List.getElem?_toArray, List.getElem?_cons_zero, List.getElem?_cons_succ, Option.bind_some, Act.put, List.setIfInBounds_toArray, List.set_cons_zero, List.set_cons_succ]
          refine Ym.val (hI.read (i := 0) (by decide) rfl) ?_
          first | (go_simp; done) | (go_simp; rfl)
        · simp only [List.getElem?_toArray, List.getElem?_cons_zero, List.getElem?_cons_succ, Option.some.injEq] at hi
          subst hi
          refine And.intro (wanted_none rfl _) ?_
          have l6 := not_of hcl 6 1 hL (by kernel_rfl)
          have l9 := not_of hcl 9 6 l6 (by kernel_rfl)
          have l12 := not_of hcl 12 9 l9 (by kernel_rfl)
          simp only [putT, List.getElem?_toArray, List.getElem?_cons_zero, List.getElem?_cons_succ, Option.bind_some, Act.put, List.setIfInBounds_toArray, List.set_cons_zero, List.set_cons_succ]
          refine Ym.val (hI.s1 l6 l9 l12) ?_
          first | (go_simp; done) | (go_simp; rfl)
        · simp only [List.getElem?_toArray, List.getElem?_cons_zero, List.getElem?_cons_succ, Option.some.injEq] at hi
          subst hi
          refine And.intro (wanted_none rfl _) ?_
          skip
          simp only [putT, List.getElem?_toArray, List.getElem?_cons_zero, List.getElem?_cons_succ, Option.bind_some, Act.put, List.setIfInBounds_toArray, List.set_cons_zero, List.set_cons_succ]
          refine Ym.val (hI.read (i := 2) (by decide) rfl) ?_
          first | (go_simp; done) | (go_simp; rfl)
        · simp only [List.getElem?_toArray, List.getElem?_cons_zero, List.getElem?_cons_succ, Option.some.injEq] at hi
          subst hi
          refine And.intro (wanted_none rfl _) ?_
          have d2 := dep_of hdep 2 (by kernel_rfl)
          have h2 := hI.rd 2 d2 (by decide)
          simp only [putT, List.getElem?_toArray, List.getElem?_cons_zero, List.getElem?_cons_succ, Option.bind_some, Act.put, List.setIfInBounds_toArray, List.set_cons_zero, List.set_cons_succ]
          rw [show vs 2 = _ from h2]; simp only [cXi]; refine Ym.val (hI.read (i := 3) (by decide) rfl) ?_
          first | (go_simp; done) | (go_simp; rfl)
        · simp only [List.getElem?_toArray, List.getElem?_cons_zero, List.getElem?_cons_succ, Option.some.injEq] at hi
          subst hi
          refine And.intro (wanted_none rfl _) ?_
          have d3 := dep_of hdep 3 (by kernel_rfl)
          have h3 := hI.rd 3 d3 (by decide)
          simp only [putT, List.getElem?_toArray, List.getElem?_cons_zero, List.getElem?_cons_succ, Option.bind_some, Act.put, List.setIfInBounds_toArray, List.set_cons_zero, List.set_cons_succ]
          rw [show vs 3 = _ from h3]; simp only [cXi]; refine Ym.val (hI.read (i := 4) (by decide) rfl) ?_
          first | (go_simp; done) | (go_simp; rfl)
        · simp only [List.getElem?_toArray, List.getElem?_cons_zero, List.getElem?_cons_succ, Option.some.injEq] at hi
          subst hi
          refine And.intro (wanted_none rfl _) ?_
          have d4 := dep_of hdep 4 (by kernel_rfl)
          have h4 := hI.rd 4 d4 (by decide)
          have l6 := not_of hcl 6 5 hL (by kernel_rfl)
          have l9 := not_of hcl 9 6 l6 (by kernel_rfl)
          have l12 := not_of hcl 12 9 l9 (by kernel_rfl)
          have hc := ((hI.bl l12).cell (p := ⟨b5, o5 + 6, none⟩) (Nat.lt_of_lt_of_le hb5 hCB.size)).trans hs4
          have hbw : b5 < W.heap.size := Nat.lt_of_lt_of_le (Nat.lt_of_lt_of_le hb5 hCB.size) (hI.bl l12).size
          simp only [putT, List.getElem?_toArray, List.getElem?_cons_zero, List.getElem?_cons_succ, Option.bind_some, Act.put, List.setIfInBounds_toArray, List.set_cons_zero, List.set_cons_succ]
          rw [show vs 4 = _ from h4]; simp only [cXi]; refine Ym.val (hI.read (i := 5) (by decide) rfl) ?_
          first | (go_simp; done) | (go_simp; rfl)
        · simp only [List.getElem?_toArray, List.getElem?_cons_zero, List.getElem?_cons_succ, Option.some.injEq] at hi
          subst hi
          refine And.intro (wanted_none rfl _) ?_
          have d1 := dep_of hdep 1 (by kernel_rfl)
          have d5 := dep_of hdep 5 (by kernel_rfl)
          have h5 := hI.rd 5 d5 (by decide)
          have l9 := not_of hcl 9 6 hL (by kernel_rfl)
          have l12 := not_of hcl 12 9 l9 (by kernel_rfl)
          obtain ⟨v', w', hrun, hX⟩ := hI.s6 (ad := ad) (cp := cs) d1 hL l9 l12 hnews4.out (by omega)
          rw [hMd] at hrun
          simp only [putT, List.getElem?_toArray, List.getElem?_cons_zero, List.getElem?_cons_succ, Option.bind_some, Act.put, List.setIfInBounds_toArray, List.set_cons_zero, List.set_cons_succ]
          exact Ym.val hX (run_append_op rfl rfl h5 hrun)
        · simp only [List.getElem?_toArray, List.getElem?_cons_zero, List.getElem?_cons_succ, Option.some.injEq] at hi
          subst hi
          refine And.intro (wanted_none rfl _) ?_
          have l8 := not_of hcl 8 7 hL (by kernel_rfl)
          have l9 := not_of hcl 9 8 l8 (by kernel_rfl)
          have l12 := not_of hcl 12 9 l9 (by kernel_rfl)
          have hbx := (hI.bl l12).block (w.heap.size + 1) hO4l
          rw [hO4] at hbx
          obtain ⟨xc, -, xl⟩ := obj_cells hbx; have x0 := xc 0; have x1 := xc 1; simp only [List.getElem?_toArray, List.getElem?_cons_zero, List.getElem?_cons_succ] at x0 x1; clear xc hbx
          simp only [putT, List.getElem?_toArray, List.getElem?_cons_zero, List.getElem?_cons_succ, Option.bind_some, Act.put, List.setIfInBounds_toArray, List.set_cons_zero, List.set_cons_succ]
          refine Ym.val (hI.read (i := 7) (by decide) rfl) ?_
          first | (go_simp; done) | (go_simp; rfl)
        · simp only [List.getElem?_toArray, List.getElem?_cons_zero, List.getElem?_cons_succ, Option.some.injEq] at hi
          subst hi
          refine And.intro (wanted_none rfl _) ?_
          have d7 := dep_of hdep 7 (by kernel_rfl)
          have h7 := hI.rd 7 d7 (by decide)
          have l9 := not_of hcl 9 8 hL (by kernel_rfl)
          have l12 := not_of hcl 12 9 l9 (by kernel_rfl)
          simp only [putT, List.getElem?_toArray, List.getElem?_cons_zero, List.getElem?_cons_succ, Option.bind_some, Act.put, List.setIfInBounds_toArray, List.set_cons_zero, List.set_cons_succ]
          rw [show vs 7 = _ from h7]
          simp only [cXi]
          refine Ym.val (hI.s8 l9 l12) ?_
          first | (go_simp; done) | (go_simp; rfl)
        · simp only [List.getElem?_toArray, List.getElem?_cons_zero, List.getElem?_cons_succ, Option.some.injEq] at hi
          subst hi
          refine And.intro (wanted_none rfl _) ?_
          have d6 := dep_of hdep 6 (by kernel_rfl)
          have d8 := dep_of hdep 8 (by kernel_rfl)
          have d1 := hcl 6 _ rfl d6 ⟨1, .data⟩ (by simp) rfl
          have l12 := not_of hcl 12 9 hL (by kernel_rfl)
          obtain ⟨v', w', hrun, hX⟩ := hI.s9 d1 d6 d8 hL l12 (by omega)
          simp only [putT, List.getElem?_toArray, List.getElem?_cons_zero, List.getElem?_cons_succ, Option.bind_some, Act.put, List.setIfInBounds_toArray, List.set_cons_zero, List.set_cons_succ]
          exact Ym.val hX (run_append_op rfl rfl rfl hrun)
        · simp only [List.getElem?_toArray, List.getElem?_cons_zero, List.getElem?_cons_succ, Option.some.injEq] at hi
          subst hi
          refine And.intro (wanted_none rfl _) ?_
          have d0 := dep_of hdep 0 (by kernel_rfl)
          have h0 := hI.rd 0 d0 (by decide)
          simp only [putT, List.getElem?_toArray, List.getElem?_cons_zero, List.getElem?_cons_succ, Option.bind_some, Act.put, List.setIfInBounds_toArray, List.set_cons_zero, List.set_cons_succ]
          rw [show vs 0 = _ from h0]; simp only [cXi]; refine Ym.val (hI.read (i := 10) (by decide) rfl) ?_
          first | (go_simp; done) | (go_simp; rfl)
        · simp only [List.getElem?_toArray, List.getElem?_cons_zero, List.getElem?_cons_succ, Option.some.injEq] at hi
          subst hi
          refine And.intro (wanted_none rfl _) ?_
          have d10 := dep_of hdep 10 (by kernel_rfl)
          have h10 := hI.rd 10 d10 (by decide)
          simp only [putT, List.getElem?_toArray, List.getElem?_cons_zero, List.getElem?_cons_succ, Option.bind_some, Act.put, List.setIfInBounds_toArray, List.set_cons_zero, List.set_cons_succ]
          rw [show vs 10 = _ from h10]; simp only [cXi]; refine Ym.val (hI.read (i := 11) (by decide) rfl) ?_
          first | (go_simp; done) | (go_simp; rfl)
        · simp only [List.getElem?_toArray, List.getElem?_cons_zero, List.getElem?_cons_succ, Option.some.injEq] at hi
          subst hi
          refine And.intro (wanted_none rfl _) ?_
          have d9 := dep_of hdep 9 (by kernel_rfl)
          have d11 := dep_of hdep 11 (by kernel_rfl)
          have h11 := hI.rd 11 d11 (by decide)
          have d6 := hcl 9 _ rfl d9 ⟨6, .data⟩ (by simp) rfl
          have d8 := hcl 9 _ rfl d9 ⟨8, .data⟩ (by simp) rfl
          have d1 := hcl 6 _ rfl d6 ⟨1, .data⟩ (by simp) rfl
          obtain ⟨⟨ug, gc⟩, gf, gl⟩ := hG4 _ (hI.bl hL)
          obtain ⟨a9, c9, e9⟩ := owns_val (hI.o9 d9 hL)
          have hX := hI.s12 d1 d6 d8 d9 hL undef
          rw [e9] at hX
          simp only [putT, List.getElem?_toArray, List.getElem?_cons_zero, List.getElem?_cons_succ, Option.bind_some, Act.put, List.setIfInBounds_toArray, List.set_cons_zero, List.set_cons_succ]
          rw [show vs 11 = _ from h11]
          simp only [cXi]
          refine Ym.skip hX ?_
          rw [e9]
          first | (go_simp; done) | (go_simp; rfl)
        · intro vs W hI
          obtain ⟨W', sv, hbW, hA, rfl⟩ := hI.last (by kernel_rfl)
          have hfin := Lib.hid (hC4.out.put hat.out hbW (AtX.mono2 hA (fun b _ h => .inl h)))
          clear hI hA hbW
          simp only [List.size_toArray, List.length_cons, List.length_nil, Nat.zero_add, Nat.reduceAdd, putT, List.getElem?_toArray, List.getElem?_cons_zero, List.getElem?_cons_succ, Option.bind_some, Act.put, List.setIfInBounds_toArray, List.set_cons_zero, List.set_cons_succ]
          go_wp2_with fail
          go_meet
          exact ⟨rfl, hfin.out.1, hfin.out.2⟩
      case rest =>
        obtain ⟨rfl, hT7, hB7⟩ := hcut
        clear hG4 hO4 hO4l hO4l0 hs4 hnews4 hCB hrun4 hC4 hadb
        have hv5w := hv5.out.below hB7
        obtain ⟨g8, c8, w6, hrun6, hC6⟩ := copy_at wc _ _ hv5w (by omega) (by omega)
        have hs6 := (hB7.cell (p := ⟨b5, o5 + 6, none⟩) hb5).trans hs5.out
        have hA6 := hA5.out.below hB7
        have hb5w := Nat.lt_of_lt_of_le hb5 hB7.size
        have hCB : Below wc.heap.size wc w6 := by obtain ⟨_, _, _, _, _, _, _, h⟩ := hC6; exact h
        have hs6' := (hCB.cell (p := ⟨b5, o5 + 6, none⟩) hb5w).trans hs6
        have hb5w' := Nat.lt_of_lt_of_le hb5w hCB.size
        have hG6 : (∃ u, w6.cell? ⟨g8, 6, none⟩ = some u) ∧ w6.frozen? ⟨g8, 6, none⟩ = false ∧ g8 < w6.heap.size := by
          obtain ⟨ps, g', c', e, hm, hp, hOw, -⟩ := hC6
          obtain ⟨e1, -, -⟩ := Value.slice.inj e
          have e1 := Option.some.inj e1
          injection e1 with e1 _ _
          subst e1
          have hpl : ps.length = N := by rw [← hNd, ← hm, List.length_map]
          rw [hNd] at hOw
          obtain ⟨u, h6⟩ : ∃ u, (tkCells ps)[6]? = some u := ⟨_, List.getElem?_eq_getElem (by rw [tkCells_len]; omega)⟩
          exact ⟨⟨u, (hOw.cellAt 6 (by omega)).trans h6⟩, hOw.frozenAt 6, (hOw.lt g8 rfl).2⟩
        obtain ⟨⟨ug, gc⟩, gf, gl⟩ := hG6
        have hA7 := hA6.init
        obtain ⟨ba, oa, rfl⟩ : ∃ ba oa, ad = ⟨ba, oa, none⟩ := by
          obtain ⟨ptr, cap, e, -, -, h⟩ := hA6
          obtain ⟨b, o, h, -⟩ := h (by omega)
          rw [h] at e
          injection e with e
          exact ⟨b, o, Option.some.inj e⟩
        have hMcs : M ≤ cs := by
          obtain ⟨ptr, cap, e, h, -⟩ := hA6
          obtain ⟨-, -, rfl⟩ := Value.slice.inj e
          omega
        have hsl : ∀ W : World, (Instr.slice 36 (.slice (some ⟨ba, oa, none⟩) M cs) none (some (.int .i64 ((M : Int) - 1))) none).run Tryd.prog W = .ok (.slice (some ⟨ba, oa, none⟩) (M - 1) cs) W := fun W => by
          have h3 : (0 : Int) ≤ (M : Int) - 1 := by omega
          have h4 : (M : Int) - 1 ≤ (cs : Int) := by omega
          have h5 : ((M : Int) - 1).toNat = M - 1 := by omega
          have h6 : ¬ (M : Int) < 1 := by omega
          simp [go_sem, h3, h4, h5, h6]
        have hwr : IntKind.i64.wrap ((M : Int) - 1) = (M : Int) - 1 := wrap_small _ (by omega) (by omega)
        rw [hNd] at hrun6
        have hC6' := Lib.hid hC6
        replace hrun6 := Lib.hid hrun6
        replace hv5w := Lib.hid hv5w
        replace hT7 := Lib.hid hT7
        replace hB7 := Lib.hid hB7
        replace hA7 := Lib.hid hA7
        replace hCB := Lib.hid hCB
        clear hC6 hA6 hs6
        go_upto_region 7 with (at_builtin; refine wpList_append_run _ w6 rfl _ _ 27 rfl _ _ _ rfl rfl hrun6.out ?_)
        obtain ⟨W2, hW2⟩ : ∃ W2, W2 = wc := ⟨_, rfl⟩
        subst hW2
        go_cut [8] (fun v8 W => v8 = .slice (some ⟨g8, 0, none⟩) N c8 ∧ TkS W v8 ((toksR r).set 1 ⟨1, verbL r.vb, (attrsR r).take ((attrsR r).length - 1), []⟩) ∧ Below W2.heap.size W2 W)
        case first =>
          have hfin := CpT.put hC6'.out hat.out (Below.refl _ w6) (AtX.of hA7.out hCB.out (fun b h => .inr h))
          rw [hNd] at hfin
          replace hfin := Lib.hid hfin
          go_region_law (fail)
          all_goals go_wp2
          all_goals go_meet
          all_goals exact ⟨rfl, hfin.out.1.below (Below.refl _ _).drew, hfin.out.2.drew⟩
        case rest =>
          obtain ⟨rfl, hT8, hB8⟩ := hcut
          have hb7 := belowT hB7.out hB8
          have hall := belowT hB.out hb7
          have hT7c := hT7.out.below hB8
          have hT5c := hv5.out.below hb7
          have hT9 := hT5c.tail (by omega)
          have hsm' : ∀ al : Ats, al.length ≤ 100 → (∀ p ∈ al, p.1.length ≤ 140737488351232 ∧ p.2.length ≤ 140737488351232) → ∀ tk ∈ (toksR r).set 1 ⟨1, verbL r.vb, al, []⟩, tk.small := fun al hal hsa tk htk => by
            rcases List.mem_or_eq_of_mem_set htk with h | rfl
            · exact hsm.out tk h
            · exact ⟨(hsm.out _ (List.mem_of_getElem? hat.out)).1, by simp, by simp only; omega, hsa⟩
          have hsA := (hsm.out _ (List.mem_of_getElem? hat.out)).2.2.2
          simp only at hsA
          have hdv : decV none = .tuple #[.agg #[.int .u8 0, .string ⟨#[]⟩, .string ⟨#[]⟩, .string ⟨#[]⟩, .int .u8 0, .int .u8 0, .int .i64 0, .int .i64 0, .string ⟨#[]⟩, .bool false, .string ⟨#[]⟩], .int .i64 3] := rfl
          have hD7 : Hid (∀ W, Below wc.heap.size wc W → Calls Tryd.prog 10 #[.slice (some ⟨g7, 0, none⟩) N c7] W fun e w' => e = .returned (.tuple #[.agg #[.int .u8 0, .string ⟨#[]⟩, .string ⟨#[]⟩, .string ⟨#[]⟩, .int .u8 0, .int .u8 0, .int .i64 0, .int .i64 0, .string ⟨#[]⟩, .bool false, .string ⟨#[]⟩], .int .i64 3]) ∧ Below W.heap.size W w') := Lib.hid fun W h => by
            have h1 := decode_any _ _ W (hT7c.below h) (hsm' _ (by rw [List.length_append, hMd]; simp; omega) (fun p hp => by
              rcases List.mem_append.1 hp with hp | hp
              · exact hsA p hp
              · rw [List.mem_singleton.1 hp]; exact ⟨hx, hy⟩)) (hT.below (belowT hall h))
            rw [dec_other hrr.out _ (by simp), hdv] at h1
            exact h1
          have hD8 : Hid (∀ W, Below wc.heap.size wc W → Calls Tryd.prog 10 #[.slice (some ⟨g8, 0, none⟩) N c8] W fun e w' => e = .returned (.tuple #[.agg #[.int .u8 0, .string ⟨#[]⟩, .string ⟨#[]⟩, .string ⟨#[]⟩, .int .u8 0, .int .u8 0, .int .i64 0, .int .i64 0, .string ⟨#[]⟩, .bool false, .string ⟨#[]⟩], .int .i64 3]) ∧ Below W.heap.size W w') := Lib.hid fun W h => by
            have h1 := decode_any _ _ W (hT8.below h) (hsm' _ (by rw [List.length_take]; omega) (fun p hp => hsA p (List.mem_of_mem_take hp))) (hT.below (belowT hall h))
            rw [dec_other hrr.out _ (by rw [List.length_take]; omega), hdv] at h1
            exact h1
          have hD9 : Hid (∀ W, Below wc.heap.size wc W → Calls Tryd.prog 10 #[.slice (some ⟨b5, o5 + 4, none⟩) (N - 1) (c5 - 1)] W fun e w' => e = .returned (.tuple #[.agg #[.int .u8 0, .string ⟨#[]⟩, .string ⟨#[]⟩, .string ⟨#[]⟩, .int .u8 0, .int .u8 0, .int .i64 0, .int .i64 0, .string ⟨#[]⟩, .bool false, .string ⟨#[]⟩], .int .i64 3]) ∧ Below W.heap.size W w') := Lib.hid fun W h => by
            rw [hNd] at hT9
            have h1 := decode_any _ _ W (hT9.below h) (fun tk htk => hsm.out tk (List.mem_of_mem_drop htk)) (hT.below (belowT hall h))
            rw [dec_tail hrr.out, hdv] at h1
            exact h1
          have hL9 : Hid (∀ W, Below wc.heap.size wc W → Calls Tryd.prog 8 #[] W fun e w' => e = .returned (.bool true) ∧ Below W.heap.size W w') := Lib.hid fun W h => hLv.out W (belowT hall h)
          have hsl2 : ∀ W : World, (Instr.slice 27 (.slice (some ⟨b5, o5, none⟩) N c5) (some (.int .i64 1)) none none).run Tryd.prog W = .ok (.slice (some ⟨b5, o5 + 4, none⟩) (N - 1) (c5 - 1)) W := fun W => by
            have h3 : (1 : Int) ≤ (N : Int) := by omega
            have h4 : (N : Int) ≤ (c5 : Int) := by omega
            have h5 : ¬ c5 = 1 := by omega
            simp [go_sem, h3, h4, h5]
          replace hall := Lib.hid hall
          clear hT8 hB8 hb7 hT7c hT5c hT9 hsm' hsA hdv hT7 hB7 hv5w hA7 hCB hC6' hsl hwr hs6' gc gf gl hb5w hb5w' hv5 hO hB hs5 hA5 hnews hrun6 hLv hT hNd hMd hsm hat hrr hen
          go_wp2_with (first
            | (go_at_call 8; have m0 := hb13; refine (hL9.out _ hb13.out).mono ?_; rintro e w14 ⟨rfl, hb14⟩; have h14 := Lib.hid (belowT hb13.out hb14); clear hb14)
            | (go_at_call 10; have m0 := hb12; refine (hD9.out _ hb12.out).mono ?_; rintro e w13 ⟨rfl, hb13⟩; replace hb13 := Lib.hid (belowA (belowT hb12.out hb13) (.cells #[.int .u8 0, .string ⟨#[]⟩, .string ⟨#[]⟩, .string ⟨#[]⟩, .int .u8 0, .int .u8 0, .int .i64 0, .int .i64 0, .string ⟨#[]⟩, .bool false, .string ⟨#[]⟩] 26)))
            | (go_at_call 10; have m0 := hb11; refine (hD8.out _ hb11.out).mono ?_; rintro e w12 ⟨rfl, hb12⟩; replace hb12 := Lib.hid (belowA (belowT hb11.out hb12) (.cells #[.int .u8 0, .string ⟨#[]⟩, .string ⟨#[]⟩, .string ⟨#[]⟩, .int .u8 0, .int .u8 0, .int .i64 0, .int .i64 0, .string ⟨#[]⟩, .bool false, .string ⟨#[]⟩] 26)))
            | (go_at_call 10; refine (hD7.out _ (Below.refl _ _)).mono ?_; rintro e w11 ⟨rfl, hb11⟩; replace hb11 := Lib.hid (belowA hb11 (.cells #[.int .u8 0, .string ⟨#[]⟩, .string ⟨#[]⟩, .string ⟨#[]⟩, .int .u8 0, .int .u8 0, .int .i64 0, .int .i64 0, .string ⟨#[]⟩, .bool false, .string ⟨#[]⟩] 26))))
          go_ret
          exact ⟨rfl, belowT hall.out h14.out⟩
theorem requestExact_walk (r : Rq) (x y : List UInt8) (w : World) (hr : r.small) (hx : x.length ≤ 140737488351232) (hy : y.length ≤ 140737488351232) (hT : Tabs w) :
    Calls Tryd.prog 4 #[rqV r, .agg #[.string ⟨x.toArray⟩, .string ⟨y.toArray⟩]] w fun e w' => e = .returned (.bool true) ∧ Below w.heap.size w w' := requestExact_go r x y w hr hx hy hT
end Go.Proofs.YtmapinediglimaaDoor
