/-
  A copy of some subscriptions with one more behind them. Condition: at most two.
-/
import Derived.Test.YtoijpjmkjhoiaaaTtMem
import Derived.Laws.OwnMore
import Derived.Deep.Upon
namespace Go.Proofs.Ytoijpjmkjhoiaaa
set_option linter.unusedVariables false
set_option linter.unusedSimpArgs false
open Go.RowKit Go.MapKept
theorem nothing_srx {P : Program} (w : World) (t ty e : TypeId) (i : TypeInfo) (ht : P.underlying t = some (.slice e)) (hi : P.info? e = some i) (a : Option Addr) (n c c' : Nat) (h : n ≤ c) : (Builtin.append_ #[t, t] ty #[.slice a n c, .slice none 0 c']).run P w = .ok (.slice a n c) w :=
  run_append_nothing w t t ty e i ht hi a n c h _ (Src.ofNil w ht c')
theorem wpList_append_rux {P : Program} (w w' : World) {ops : Array Oper} {rest : List Oper} {o : Oper} {a : Act} {Q : Exit → Act → World → Prop} (hgd : o.guard = none) (s x : Operand) (t : TypeId)
    (ho : o.op = .call { callee := .builtin .append, args := #[s, x], argTypes := #[t, t] }) (v u v' : Value) (hs : a.eval s = v) (hx : a.eval x = u)
    (hrun : (Builtin.append_ #[t, t] o.type #[v, u]).run P w = .ok v' w') (h : wpList P ops Q rest (a.put o.dst v') w') : wpList P ops Q (o :: rest) a w := by
  refine wpList_plain hgd fun K hK => ?_
  unfold Oper.wp execOp
  simp only [ho, resolve, invoke, builtin, Sem.run_bind, Sem.run_pure, Result.andThen_ok, List.map_toArray, List.map_cons, List.map_nil, hs, hx, hrun]
  exact hK _ _ h
def suC (l : List (Tx × Bool × Int)) : List Value := l.flatMap fun s => [.string ⟨s.1.toArray⟩, .bool s.2.1, .int .i64 s.2.2]
theorem suC_len (l : List (Tx × Bool × Int)) : (suC l).length = l.length * 3 := by
  induction l with
  | nil => rfl
  | cons p r ih => simp only [suC, List.flatMap_cons, List.length_append, List.length_cons, List.length_nil] at ih ⊢; omega
theorem suC_get (l : List (Tx × Bool × Int)) : ∀ i (h : i < l.length), (suC l)[i * 3]? = some (.string ⟨(l[i]'h).1.toArray⟩) ∧ (suC l)[i * 3 + 1]? = some (.bool (l[i]'h).2.1) ∧ (suC l)[i * 3 + 2]? = some (.int .i64 (l[i]'h).2.2) := by
  induction l with
  | nil => intro i h; cases h
  | cons p r ih =>
    intro i h
    have e : suC (p :: r) = [.string ⟨p.1.toArray⟩, .bool p.2.1, .int .i64 p.2.2] ++ suC r := rfl
    cases i with
    | zero => rw [e]; simp
    | succ i =>
      have := ih i (by simpa using h)
      rw [e, List.getElem?_append_right (by simp; omega), List.getElem?_append_right (by simp; omega), List.getElem?_append_right (by simp; omega)]
      simp only [List.length_cons, List.length_nil, List.getElem_cons_succ]
      rw [show (i + 1) * 3 - (0 + 1 + 1 + 1) = i * 3 by omega, show (i + 1) * 3 + 1 - (0 + 1 + 1 + 1) = i * 3 + 1 by omega, show (i + 1) * 3 + 2 - (0 + 1 + 1 + 1) = i * 3 + 2 by omega]
      exact this
theorem suC_one (l : List (Tx × Bool × Int)) : ∀ u ∈ suC l, u.oneCell' = true := by
  intro u hu
  obtain ⟨s, -, hu⟩ := List.mem_flatMap.1 hu
  simp only [List.mem_cons, List.mem_nil_iff, or_false] at hu
  rcases hu with rfl | rfl | rfl <;> rfl
theorem suC_at {l : List (Tx × Bool × Int)} {j : Nat} {u : Value} (hj : (suC l)[j]? = some u) : ∃ i r, ∃ h : i < l.length, r < 3 ∧ j = i * 3 + r ∧ u = (match r with | 0 => .string ⟨(l[i]'h).1.toArray⟩ | 1 => .bool (l[i]'h).2.1 | _ => .int .i64 (l[i]'h).2.2) := by
  have hlt : j < l.length * 3 := by rw [← suC_len]; exact (List.getElem?_eq_some_iff.1 hj).1
  have hi : j / 3 < l.length := by omega
  obtain ⟨h0, h1, h2⟩ := suC_get l (j / 3) hi
  refine ⟨j / 3, j % 3, hi, Nat.mod_lt _ (by omega), by omega, ?_⟩
  have e : j = j / 3 * 3 + j % 3 := by omega
  have hm : j % 3 < 3 := Nat.mod_lt _ (by omega)
  generalize j % 3 = r at e hm ⊢
  match r, hm with
  | 0, _ => rw [e] at hj; rw [Nat.add_zero] at hj; exact Option.some.inj (hj.symm.trans h0)
  | 1, _ => rw [e] at hj; exact Option.some.inj (hj.symm.trans h1)
  | 2, _ => rw [e] at hj; exact Option.some.inj (hj.symm.trans h2)
theorem infoSu : ∃ i, Try.prog.info? 46 = some i ∧ i.zero = some (.agg #[.string ⟨#[]⟩, .bool false, .int .i64 0]) ∧ i.size = 3 ∧ i.bytes = 32 := by
  have h : (Try.prog.info? 46).map (fun i => (i.zero, i.size, i.bytes)) = some (some (.agg #[.string ⟨#[]⟩, .bool false, .int .i64 0]), 3, 32) := by kernel_rfl
  cases hi : Try.prog.info? 46 with
  | none => rw [hi] at h; cases h
  | some i => rw [hi] at h; simp only [Option.map_some, Option.some.injEq, Prod.mk.injEq] at h; exact ⟨i, rfl, h⟩
theorem owns_suh {W : World} {base : Nat} {v : Value} {l : List (Tx × Bool × Int)} (h : W.ownsRow base 46 3 v l.length (suC l)) (h0 : 0 < l.length) : SuH W v l := by
  rcases h.2 with ⟨rfl, h1⟩ | ⟨g, cap, cur, rfl, hb, hg, h1, h2, h3, h4⟩
  · omega
  · refine .inr ⟨g, cur, cap, rfl, h0, h1, h2, hg, fun i hi => ?_⟩
    have hcur : ∀ j u, (suC l)[j]? = some u → cur[j]? = some u := fun j u hj => by
      rw [← h4, List.getElem?_take] at hj
      split at hj
      · simpa using hj
      · cases hj
    obtain ⟨q0, q1, q2⟩ := suC_get l i hi
    exact ⟨hcur _ _ q0, hcur _ _ q1, hcur _ _ q2⟩
theorem sub_copy (W : World) (sv : Value) (l : List (Tx × Bool × Int)) (hS : SuH W sv l) (hl : l.length ≤ 2) :
    ∃ v' w', (Builtin.append_ #[27, 27] 27 #[.slice (some ⟨W.heap.size, 0, none⟩) 0 0, sv]).run Try.prog (W.alloc (.cells #[] 46)) = .ok v' w' ∧ w'.ownsRow W.heap.size 46 3 v' l.length (suC l) ∧ Below W.heap.size W w' := by
  obtain ⟨i0, hi, hz0, hz1, hz2⟩ := infoSu
  have hO : (W.alloc (.cells #[] 46)).ownsRow W.heap.size 46 3 (.slice (some ⟨W.heap.size, 0, none⟩) 0 0) 0 [] := ⟨rfl, .inr ⟨W.heap.size, 0, #[], rfl, Nat.le_refl _, bare_nd _ _, Nat.le_refl _, by decide, rfl, rfl⟩⟩
  rcases hS with ⟨rfl, rfl⟩ | ⟨b, cs, c, rfl, h0, h1, h2, h3, h4⟩
  · exact ⟨_, _, nothing_srx (P := Try.prog) (W.alloc (.cells #[] 46)) 27 27 46 i0 Try.underlying27 hi (some ⟨W.heap.size, 0, none⟩) 0 0 0 (Nat.le_refl _), hO, below1 _ _⟩
  · have hbl := (Array.getElem?_eq_some_iff.1 h3).1
    have hnews : ∀ j u, (suC l)[j]? = some u → (W.alloc (.cells #[] 46)).cell? ((⟨b, 0, none⟩ : Addr).add j) = some u := fun j u hj => by
      rw [Addr.add_lit, Nat.zero_add]
      refine ((below1 W _).cell (p := ⟨b, j, none⟩) hbl).trans ?_
      rw [(obj_cells h3).1]
      obtain ⟨i, r, hi', hr, rfl, rfl⟩ := suC_at hj
      obtain ⟨q0, q1, q2⟩ := h4 i hi'
      match r, hr with
      | 0, _ => exact q0
      | 1, _ => exact q1
      | 2, _ => exact q2
    obtain ⟨v', w', hrun, hown, hgr, _, _⟩ := run_append_own_at (P := Try.prog) (W.alloc (.cells #[] 46)) W.heap.size 27 27 46 i0 _ 3 32 Try.underlying27 hi hz0 hz1 hz2 rfl (by decide) _ _ _ hO ⟨b, 0, none⟩ l.length c (suC l) (suC_len l) hnews (suC_one l) (by unfold maxLen; omega) (by omega) (by simp)
    rw [Nat.zero_add, List.nil_append] at hown
    exact ⟨v', w', hrun, hown, (below1 W _).grown hgr (by simp) (fun k hk => by cases hk; exact Nat.le_refl _)⟩
theorem sub_more (W : World) (base : Nat) (v : Value) (l : List (Tx × Bool × Int)) (s : Tx × Bool × Int) (hO : W.ownsRow base 46 3 v l.length (suC l)) (hl : l.length ≤ 2) (hb : base ≤ W.heap.size) :
    ∃ v' w', (Builtin.append_ #[27, 27] 27 #[v, .slice (some ⟨W.heap.size, 0, none⟩) 1 1]).run Try.prog (W.alloc (.cells #[.string ⟨s.1.toArray⟩, .bool s.2.1, .int .i64 s.2.2] 46)) = .ok v' w' ∧ w'.ownsRow base 46 3 v' (l ++ [s]).length (suC (l ++ [s])) ∧ Below base W w' := by
  obtain ⟨i0, hi, hz0, hz1, hz2⟩ := infoSu
  have hO1 := hO.alloc (.cells #[.string ⟨s.1.toArray⟩, .bool s.2.1, .int .i64 s.2.2] 46)
  have hnews : ∀ j u, (suC [s])[j]? = some u → (W.alloc (.cells #[.string ⟨s.1.toArray⟩, .bool s.2.1, .int .i64 s.2.2] 46)).cell? ((⟨W.heap.size, 0, none⟩ : Addr).add j) = some u := fun j u hj => by
    rw [Addr.add_lit, Nat.zero_add, (obj_cells (heap_alloc W _).1).1]
    simpa [suC] using hj
  obtain ⟨v', w', hrun, hown, hgr, _, _⟩ := run_append_own_at (P := Try.prog) _ base 27 27 46 i0 _ 3 32 Try.underlying27 hi hz0 hz1 hz2 rfl (by decide) _ _ _ hO1 ⟨W.heap.size, 0, none⟩ 1 1 (suC [s]) rfl hnews (suC_one _) (by unfold maxLen; omega) (by omega) (by simp only [World.size_alloc]; omega)
  refine ⟨v', w', hrun, ?_, ((Below.refl base W).alloc hb _).grown hgr (by simp only [World.size_alloc]; omega) (fun k hk => (hO.lt k hk).1)⟩
  rw [List.length_append]
  simpa [suC] using hown
/-- the tree's nodes are laid down -/
def TreeIn (w : World) (par : Nat → Nat) (m : Nat) (n : Nat) (v : Value) (W : World) : Prop :=
  ∃ ps : List (Nat × Value), ps.length = n ∧ W.ownsRow w.heap.size 30 8 v n (rowsT par 0 ps) ∧ (∀ j (h : j < ps.length), RowT m W j (ps[j]'h)) ∧ Below w.heap.size w W
/-- one place's subscriptions are turned -/
theorem tree_sub {par : Nat → Nat} {n kk g c : Nat} {w wr wa wb : World} {vb : Value} {ps : List (Nat × Value)} (hps : ps.length = n) (hn : n ≤ 13) (hkk : kk < n) (hO : wr.ownsRow w.heap.size 30 8 (.slice (some ⟨g, 0, none⟩) n c) n (rowsT par 0 ps)) (hRo : ∀ j (h : j < ps.length), RowT 99 wr j (ps[j]'h)) (hB : Below w.heap.size w wr)
    (hBa : Below wr.heap.size wr wa) (hBb : Below wr.heap.size wa wb) (hOb : wb.ownsRow wr.heap.size 46 3 vb (subsT 99 kk ++ [(sT, false, 1)]).length (suC (subsT 99 kk ++ [(sT, false, 1)]))) :
    TreeIn w par kk n (.slice (some ⟨g, 0, none⟩) n c) (wb.setCell ⟨g, kk * 8 + 5, none⟩ vb) := by
  have hBab : Below wr.heap.size wr wb := hBa.trans hBb
  have hOx : wb.ownsRow w.heap.size 30 8 (.slice (some ⟨g, 0, none⟩) n c) n (rowsT par 0 ps) := by
    refine ⟨hO.1, ?_⟩
    rcases hO.2 with h2 | ⟨g', cap, cur, h1, h2, h3, h4⟩
    · exact .inl h2
    · exact .inr ⟨g', cap, cur, h1, h2, (hBab.block g' (Array.getElem?_eq_some_iff.1 h3).1).trans h3, h4⟩
  have hgb := (hOx.lt g rfl).1
  obtain ⟨cur, hg⟩ : ∃ cur, wb.heap[g]? = some (.cells cur 30 (0, 0)) := by
    rcases hOx.2 with ⟨h, -⟩ | ⟨g', cap, cur, h1, -, h3, -⟩
    · cases h
    · obtain ⟨e1, -, -⟩ := Value.slice.inj h1
      have e1 := Option.some.inj e1
      injection e1 with e1 _ _
      subst e1
      exact ⟨cur, h3⟩
  have hks : KeepN wb (wb.setCell ⟨g, kk * 8 + 5, none⟩ vb) := keep_set hg
  have hst := (hOx.stored (kk * 8 + 5) vb).1
  rw [rowsT_set par vb ps 0 kk (by omega)] at hst
  refine ⟨ps.set kk ((ps[kk]'(by omega)).1, vb), by rw [List.length_set]; exact hps, hst, fun j hj => ?_, (belowT hB hBab).setCell hgb _⟩
  rw [List.length_set] at hj
  rw [List.getElem_set]
  have hsb : subsT kk kk = subsT 99 kk ++ [(sT, false, 1)] := by unfold subsT; rw [if_pos rfl, if_neg (show ¬ kk = 99 by omega), List.append_nil]
  split
  · rename_i e
    subst e
    have h := ((hRo kk hj).kept (keep_below hBab)).kept hks
    exact ⟨h.1, by rw [hsb]; exact (owns_suh hOb (by simp)).kept hks⟩
  · rename_i e
    have h := ((hRo j hj).kept (keep_below hBab)).kept hks
    have hsb2 : subsT kk j = subsT 99 j := by unfold subsT; rw [if_neg (show ¬ j = kk from fun e' => e e'.symm), if_neg (show ¬ j = 99 by omega)]
    exact ⟨h.1, by rw [hsb2]; exact h.2⟩
end Go.Proofs.Ytoijpjmkjhoiaaa
