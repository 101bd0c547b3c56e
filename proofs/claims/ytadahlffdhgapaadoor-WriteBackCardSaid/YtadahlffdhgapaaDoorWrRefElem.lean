/-
  The reference's Element. Conditions: at most 1000 tokens; each slice of attributes takes at most 2^47 bytes.
-/
import Derived.Test.YtadahlffdhgapaaDoorWrElem3
import Derived.Test.YtadahlffdhgapaaDoorWrWalk
namespace Go.Proofs.YtadahlffdhgapaaDoor
set_option linter.unusedVariables false
set_option linter.unusedSimpArgs false
open Go.RowKit Go.MapKept
theorem wpList_append_run {P : Program} (w w' : World) {ops : Array Oper} {rest : List Oper} {o : Oper} {a : Act} {Q : Exit → Act → World → Prop} (hgd : o.guard = none) (s x : Operand) (t : TypeId)
    (ho : o.op = .call { callee := .builtin .append, args := #[s, x], argTypes := #[t, t] }) (v u v' : Value) (hs : a.eval s = v) (hx : a.eval x = u)
    (hrun : (Builtin.append_ #[t, t] o.type #[v, u]).run P w = .ok v' w') (h : wpList P ops Q rest (a.put o.dst v') w') : wpList P ops Q (o :: rest) a w := by
  refine wpList_plain hgd fun K hK => ?_
  unfold Oper.wp execOp
  simp only [ho, resolve, invoke, builtin, Sem.run_bind, Sem.run_pure, Result.andThen_ok, List.map_toArray, List.map_cons, List.map_nil, hs, hx, hrun]
  exact hK _ _ h
theorem AtX.mono2 {ok ok' : Nat → Prop} {w : World} {sv : Value} {al : Ats} (h : AtX ok w sv al) (hk : ∀ b, b < w.heap.size → ok b → ok' b) : AtX ok' w sv al := by
  obtain ⟨ptr, cap, h1, h2, h3, h4⟩ := h
  refine ⟨ptr, cap, h1, h2, h3, fun h0 => ?_⟩
  obtain ⟨b, o, h5, h6, h7, h8⟩ := h4 h0
  exact ⟨b, o, h5, h6, hk b h6 h7, h8⟩
/-- attributes behind a new empty slice -/
theorem append_at (g : Nat) (sv : Value) (al : Ats) (w : World) (hg : w.heap[g]? = some (.cells #[] 49 (0, 0))) (h : AtS w sv al) (hl : al.length * 32 ≤ 140737488351232) :
    ∃ v' w', (Builtin.append_ #[40, 40] 40 #[.slice (some ⟨g, 0, none⟩) 0 0, sv]).run Tryd.prog w = .ok v' w' ∧ AtX (fun b => g ≤ b) w' v' al ∧ Below g w w' := by
  obtain ⟨i0, hi, hz0, hz1, hz2⟩ := info_parts infoA
  have hlt : g < w.heap.size := (Array.getElem?_eq_some_iff.1 hg).1
  obtain ⟨ptr, cap, rfl, hc1, hc2, hat⟩ := h
  cases ptr with
  | none =>
    have h0 : al = [] := by
      rcases Nat.eq_zero_or_pos al.length with h | h
      · exact List.length_eq_zero_iff.1 h
      · obtain ⟨b, o, hp, -⟩ := hat h; cases hp
    subst h0
    exact ⟨_, w, nothing_src (P := Tryd.prog) w 40 40 49 i0 Tryd.underlying40 hi (some ⟨g, 0, none⟩) 0 0 cap (Nat.le_refl _), ⟨_, 0, rfl, by simp, by simp, fun h => absurd h (by simp)⟩, Below.refl _ _⟩
  | some ad =>
    have hO : w.ownsRow g 49 2 (.slice (some ⟨g, 0, none⟩) 0 0) 0 [] := ⟨rfl, .inr ⟨g, 0, #[], rfl, Nat.le_refl _, hg, Nat.le_refl _, by simp, rfl, rfl⟩⟩
    have hnews : ∀ j u, (atCells al)[j]? = some u → w.cell? (ad.add j) = some u := by
      intro j u hj
      have hj' : j < al.length * 2 := by rw [← atCells_len]; exact (List.getElem?_eq_some_iff.1 hj).1
      obtain ⟨b, o, hp, hb, hcell⟩ := hat (by omega)
      have hp := Option.some.inj hp
      subst hp
      rw [Addr.add_lit]
      rcases atCells_of al j u hj with ⟨i, hi', rfl, rfl⟩ | ⟨i, hi', rfl, rfl⟩
      · exact (hcell i hi').1
      · rw [← Nat.add_assoc]; exact (hcell i hi').2
    obtain ⟨v', w', hrun, hown, hgr, _, _⟩ := run_append_own_at (P := Tryd.prog) w g 40 40 49 i0 (.agg #[.string ⟨#[]⟩, .string ⟨#[]⟩]) 2 32 Tryd.underlying40 hi hz0 hz1 hz2 rfl (by decide) _ _ _ hO ad al.length cap (atCells al) (atCells_len al) hnews (atCells_one al) (by unfold maxLen; omega) (by omega) (by omega)
    rw [Nat.zero_add, List.nil_append] at hown
    exact ⟨v', w', hrun, owns_at hown rfl, (Below.refl g w).grown hgr (by omega) (fun k hk => by cases hk; exact Nat.le_refl _)⟩
theorem bare_nil (w : World) (o : Obj) : (w.alloc o).heap[w.heap.size]? = some o := (heap_alloc w o).1
end Go.Proofs.YtadahlffdhgapaaDoor
