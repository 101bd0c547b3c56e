/-
  An append that must make a new row: behind one attribute. No condition.
-/
import Derived.Test.YtmapinediglimaaDoorWrElem
import Derived.Laws.Append
import Derived.OwnWalkIn
import Derived.Laws.Alloc2
import Derived.Maps.AppendAt
namespace Go.Proofs.YtmapinediglimaaDoor
set_option linter.unusedVariables false
set_option linter.unusedSimpArgs false
open Go.RowKit Go.MapKept
theorem wpList_append_ok {P : Program} (w w' : World) {ops : Array Oper} {rest : List Oper} {o : Oper} {a : Act} {Q : Exit → Act → World → Prop} (hgd : o.guard = none) (s x : Operand) (t : TypeId)
    (ho : o.op = .call { callee := .builtin .append, args := #[s, x], argTypes := #[t, t] }) (v u v' : Value) (hs : a.eval s = v) (hx : a.eval x = u)
    (hrun : (Builtin.append_ #[t, t] o.type #[v, u]).run P w = .ok v' w') (h : wpList P ops Q rest (a.put o.dst v') w') : wpList P ops Q (o :: rest) a w := by
  refine wpList_plain hgd fun K hK => ?_
  unfold Oper.wp execOp
  simp only [ho, resolve, invoke, builtin, Sem.run_bind, Sem.run_pure, Result.andThen_ok, List.map_toArray, List.map_cons, List.map_nil, hs, hx, hrun]
  exact hK _ _ h
theorem wpListIn_append_ok {F : Fence} {n : Nat} {P : Program} (w w' : World) {ops : Array Oper} {rest : List Oper} {o : Oper} {a : Act} {Q : Exit → Act → World → Prop} (hg : o.guard = none) (s x : Operand) (t : TypeId)
    (hop : o.op = .call { callee := .builtin .append, args := #[s, x], argTypes := #[t, t] }) (v u v' : Value) (hs : a.eval s = v) (hx : a.eval x = u)
    (hrun : (Builtin.append_ #[t, t] o.type #[v, u]).run P w = .ok v' w') (h : wpListIn F n P ops Q rest (a.put o.dst v') w') : wpListIn F n P ops Q (o :: rest) a w := by
  refine wpListIn_plain hg fun K hK' => ?_
  unfold Oper.wpIn
  refine ⟨?_, ?_⟩
  · simp [Oper.about, hop, resolve, Target.leads, Sem.run_pure]
  · rw [Oper.semAt_plain F _ _ (by rw [hop]; intro c hc'; cases hc')]
    simp [execOp, hop, resolve, invoke, builtin, hs, hx, hrun, Result.andThen]
    exact hK' _ _ h
/-- what the append makes -/
theorem append_new (W : World) (g gn cn : Nat) (x y : List UInt8) (al : Ats) (h0 : 0 < al.length) (h3 : al.length ≤ 3) (hg : W.heap[g]? = some (.cells #[.string ⟨x.toArray⟩, .string ⟨y.toArray⟩] 35)) (hgn : W.heap[gn]? = some (.cells (atCells al).toArray 35)) :
    ∃ cap cur, (Builtin.append_ #[36, 36] 36 #[.slice (some ⟨g, 0, none⟩) 1 1, .slice (some ⟨gn, 0, none⟩) al.length cn]).run Tryd.prog W = .ok (.slice (some ⟨W.heap.size, 0, none⟩) (1 + al.length) cap) (W.drew.alloc (.cells cur 35)) ∧
      AtS (W.drew.alloc (.cells cur 35)) (.slice (some ⟨W.heap.size, 0, none⟩) (1 + al.length) cap) ((x, y) :: al) := by
  obtain ⟨i0, hi, hz0, hz1, hz2⟩ := info_parts infoA
  have hO : W.ownsRow g 35 2 (.slice (some ⟨g, 0, none⟩) 1 1) 1 (atCells [(x, y)]) := ⟨rfl, .inr ⟨g, 1, _, rfl, Nat.le_refl _, hg, Nat.le_refl _, by unfold maxLen; omega, rfl, rfl⟩⟩
  have hlt : g < W.heap.size := (Array.getElem?_eq_some_iff.1 hg).1
  have hnews : ∀ j u, (atCells al)[j]? = some u → W.cell? ((⟨gn, 0, none⟩ : Addr).add j) = some u := by
    intro j u hj
    rw [Addr.add_lit, Nat.zero_add]
    simp only [World.cell?, hgn]
    simpa using hj
  have hold : ∀ j u, (atCells [(x, y)])[j]? = some u → W.cell? ((⟨g, 0, none⟩ : Addr).add j) = some u := by
    intro j u hj
    rw [Addr.add_lit, Nat.zero_add]
    simp only [World.cell?, hg]
    simpa [atCells] using hj
  have hcap : Builtin.nextslicecap (1 + al.length) 1 * i0.bytes ≤ 281474976710656 := by
    rw [hz2]
    obtain h | h | h : al.length = 1 ∨ al.length = 2 ∨ al.length = 3 := by omega
    all_goals (rw [h]; decide)
  have A := run_append_grow (P := Tryd.prog) (w := W) 36 36 35 i0 (.agg #[.string ⟨#[]⟩, .string ⟨#[]⟩]) Tryd.underlying36 hi hz0 ⟨g, 0, none⟩ 1 1 (atCells [(x, y)]) (by rw [hz1]; rfl) hold ⟨gn, 0, none⟩ al.length cn (atCells al) (by rw [hz1]; exact atCells_len al) hnews (by omega) (by omega) hcap
  obtain ⟨v', w', hrun, hown, -⟩ := run_append_own_at (P := Tryd.prog) W g 36 36 35 i0 (.agg #[.string ⟨#[]⟩, .string ⟨#[]⟩]) 2 32 Tryd.underlying36 hi hz0 hz1 hz2 rfl (by decide) _ _ _ hO ⟨gn, 0, none⟩ al.length cn (atCells al) (atCells_len al) hnews (atCells_one al) (by unfold maxLen; omega) (by omega) (by omega)
  rw [A] at hrun
  injection hrun with e1 e2
  subst e1 e2
  have hX := owns_at (al := (x, y) :: al) hown (by simp; omega)
  exact ⟨_, _, A, hX.at⟩
theorem set_cur {w : World} {cur : Array Value} {n c : Nat} {p : List UInt8 × List UInt8} {k v : List UInt8} (h : AtS (w.alloc (.cells cur 35)) (.slice (some ⟨w.heap.size, 0, none⟩) n c) [p, (k, v)]) : cur[3]? = some (.string ⟨v.toArray⟩) := by
  obtain ⟨ptr, c9, he, -, -, h9⟩ := h
  injection he with q1 q2 q3
  subst q1
  obtain ⟨b9, o9, hp, -, hc9⟩ := h9 (by simp)
  have hp := Option.some.inj hp
  injection hp with r1 r2 _
  subst r1 r2
  have := (hc9 1 (by simp)).2
  simpa using this
theorem set_curG {w : World} {cur : Array Value} {G n c : Nat} {p : List UInt8 × List UInt8} {k v : List UInt8} (h : AtS (w.alloc (.cells cur 35)) (.slice (some ⟨G, 0, none⟩) n c) [p, (k, v)]) (hG : w.heap.size = G) : cur[3]? = some (.string ⟨v.toArray⟩) := by subst hG; exact set_cur h
/-- a value set behind -/
theorem AtS.setV {w : World} {G n c : Nat} {p : List UInt8 × List UInt8} {k v z : List UInt8} (h : AtS w (.slice (some ⟨G, 0, none⟩) n c) [p, (k, v)]) : AtS (w.setCell ⟨G, 3, none⟩ (.string ⟨z.toArray⟩)) (.slice (some ⟨G, 0, none⟩) n c) [p, (k, z)] := by
  obtain ⟨ptr, cap, he, h1, h2, h3⟩ := h
  injection he with e1 e2 e3
  subst e1 e2 e3
  obtain ⟨b, o, hp, hb, hc⟩ := h3 (by simp)
  have hp := Option.some.inj hp
  injection hp with q1 q2 _
  subst q1 q2
  refine ⟨_, c, rfl, h1, h2, fun _ => ⟨G, 0, rfl, by simpa [World.setCell] using hb, fun i hi => ?_⟩⟩
  have hi2 : i < 2 := by simpa using hi
  obtain rfl | rfl : i = 0 ∨ i = 1 := by omega
  · have := hc 0 (by simp)
    simp at this
    exact ⟨(World.cell?_setCell_other _ ⟨G, 3, none⟩ ⟨G, 0 + 0 * 2, none⟩ _ (fun h => by injection h with _ h _; omega)).trans this.1, (World.cell?_setCell_other _ ⟨G, 3, none⟩ ⟨G, 0 + 0 * 2 + 1, none⟩ _ (fun h => by injection h with _ h _; omega)).trans this.2⟩
  · have := hc 1 (by simp)
    simp at this
    exact ⟨(World.cell?_setCell_other _ ⟨G, 3, none⟩ ⟨G, 0 + 1 * 2, none⟩ _ (fun h => by injection h with _ h _; omega)).trans this.1, World.cell?_setCell_same _ _ _ this.2⟩
theorem AtS.heq {w w' : World} {sv : Value} {al : Ats} (h : AtS w sv al) (he : w'.heap = w.heap) : AtS w' sv al := by
  obtain ⟨ptr, cap, h1, h2, h2', h3⟩ := h
  refine ⟨ptr, cap, h1, h2, h2', fun h0 => ?_⟩
  obtain ⟨b, o, h4, h5, h6⟩ := h3 h0
  refine ⟨b, o, h4, by rw [he]; exact h5, fun i hi => ?_⟩
  have := h6 i hi
  simp only [World.cell?, he] at this ⊢
  exact this
theorem AtS.setN {w : World} {cur : Array Value} {G n c : Nat} {p : List UInt8 × List UInt8} {k v z : List UInt8} (h : AtS (w.alloc (.cells cur 35)) (.slice (some ⟨G, 0, none⟩) n c) [p, (k, v)]) (hG : w.heap.size = G) : AtS (w.alloc (.cells (cur.setIfInBounds 3 (.string ⟨z.toArray⟩)) 35)) (.slice (some ⟨G, 0, none⟩) n c) [p, (k, z)] := by
  subst hG
  have h2 := h.setV (z := z)
  rw [World.setCell_alloc_new] at h2
  exact h2
theorem belowAD (w : World) (o : Obj) {n : Nat} (hn : n = w.heap.size) : Below n w.drew (w.alloc o).drew := by
  subst hn
  exact ⟨rfl, rfl, rfl, by show w.heap.size ≤ (w.heap.push o).size; simp, fun k hk => Below.heap_alloc w o k hk⟩
theorem szD (w : World) : w.drew.heap.size = w.heap.size := rfl
theorem belowA1 (w : World) (o : Obj) {n : Nat} (hn : n = w.heap.size) : Below n w (w.alloc o) := by
  subst hn
  exact (Below.refl _ _).alloc (Nat.le_refl _) _
theorem belowDA (w : World) (o : Obj) {n : Nat} (hn : n = w.heap.size) : Below n w (w.drew.alloc o) := by
  subst hn
  exact ((Below.refl _ _).drew).alloc (Nat.le_refl _) _
end Go.Proofs.YtmapinediglimaaDoor
