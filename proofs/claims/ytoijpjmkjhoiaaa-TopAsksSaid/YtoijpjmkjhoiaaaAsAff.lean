/-
  A copy of some affiliations (slices.Clone), by the program. Condition: at most two.
-/
import Derived.Test.YtoijpjmkjhoiaaaAsClone
namespace Go.Proofs.Ytoijpjmkjhoiaaa
set_option linter.unusedVariables false
set_option linter.unusedSimpArgs false
open Go.RowKit Go.MapKept Go.Shelf
/-- affiliations in a block of their own -/
def AfH (W : World) (v : Value) (l : List (Tx × Nat)) : Prop :=
  (l = [] ∧ v = .slice none 0 0) ∨ ∃ h cs c, v = .slice (some ⟨h, 0, none⟩) l.length c ∧ 0 < l.length ∧ l.length ≤ c ∧ c ≤ maxLen ∧ W.heap[h]? = some (.cells cs 25 (0, 0)) ∧
    ∀ i (hi : i < l.length), cs[i * 2]? = some (.string ⟨(l[i]'hi).1.toArray⟩) ∧ cs[i * 2 + 1]? = some (.int .u8 (l[i]'hi).2)
theorem AfH.af {W : World} {v : Value} {l : List (Tx × Nat)} (h : AfH W v l) : AfS W v l := by
  rcases h with ⟨rfl, rfl⟩ | ⟨b, cs, c, rfl, h0, h1, h2, h3, h4⟩
  · exact ⟨none, 0, rfl, Nat.le_refl _, by decide, fun h => absurd h (by simp)⟩
  · obtain ⟨bc, -, bl⟩ := obj_cells h3
    refine ⟨some ⟨b, 0, none⟩, c, rfl, h1, h2, fun _ => ⟨b, 0, rfl, bl, fun i hi => ?_⟩⟩
    obtain ⟨q0, q1⟩ := h4 i hi
    refine ⟨?_, ?_⟩
    · rw [bc, Nat.zero_add]; exact q0
    · rw [bc, Nat.zero_add]; exact q1
def afC (l : List (Tx × Nat)) : List Value := l.flatMap fun s => [.string ⟨s.1.toArray⟩, .int .u8 s.2]
theorem afC_len (l : List (Tx × Nat)) : (afC l).length = l.length * 2 := by
  induction l with
  | nil => rfl
  | cons p r ih => simp only [afC, List.flatMap_cons, List.length_append, List.length_cons, List.length_nil] at ih ⊢; omega
theorem afC_get (l : List (Tx × Nat)) : ∀ i (h : i < l.length), (afC l)[i * 2]? = some (.string ⟨(l[i]'h).1.toArray⟩) ∧ (afC l)[i * 2 + 1]? = some (.int .u8 (l[i]'h).2) := by
  induction l with
  | nil => intro i h; cases h
  | cons p r ih =>
    intro i h
    have e : afC (p :: r) = [.string ⟨p.1.toArray⟩, .int .u8 p.2] ++ afC r := rfl
    cases i with
    | zero => rw [e]; simp
    | succ i =>
      have := ih i (by simpa using h)
      rw [e, List.getElem?_append_right (by simp; omega), List.getElem?_append_right (by simp; omega)]
      simp only [List.length_cons, List.length_nil, List.getElem_cons_succ]
      rw [show (i + 1) * 2 - (0 + 1 + 1) = i * 2 by omega, show (i + 1) * 2 + 1 - (0 + 1 + 1) = i * 2 + 1 by omega]
      exact this
theorem afC_one (l : List (Tx × Nat)) : ∀ u ∈ afC l, u.oneCell' = true := by
  intro u hu
  obtain ⟨s, -, hu⟩ := List.mem_flatMap.1 hu
  simp only [List.mem_cons, List.mem_nil_iff, or_false] at hu
  rcases hu with rfl | rfl <;> rfl
theorem infoAff : ∃ i, Try.prog.info? 25 = some i ∧ i.zero = some (.agg #[.string ⟨#[]⟩, .int .u8 0]) ∧ i.size = 2 ∧ i.bytes = 24 := by
  have h : (Try.prog.info? 25).map (fun i => (i.zero, i.size, i.bytes)) = some (some (.agg #[.string ⟨#[]⟩, .int .u8 0]), 2, 24) := by kernel_rfl
  cases hi : Try.prog.info? 25 with
  | none => rw [hi] at h; cases h
  | some i => rw [hi] at h; simp only [Option.map_some, Option.some.injEq, Prod.mk.injEq] at h; exact ⟨i, rfl, h⟩
theorem owns_afh {W : World} {base : Nat} {v : Value} {l : List (Tx × Nat)} (h : W.ownsRow base 25 2 v l.length (afC l)) (h0 : 0 < l.length) : AfH W v l := by
  rcases h.2 with ⟨rfl, h1⟩ | ⟨g, cap, cur, rfl, hb, hg, h1, h2, h3, h4⟩
  · omega
  · refine .inr ⟨g, cur, cap, rfl, h0, h1, h2, hg, fun i hi => ?_⟩
    have hcur : ∀ j u, (afC l)[j]? = some u → cur[j]? = some u := fun j u hj => by
      rw [← h4, List.getElem?_take] at hj
      split at hj
      · simpa using hj
      · cases hj
    obtain ⟨q0, q1⟩ := afC_get l i hi
    exact ⟨hcur _ _ q0, hcur _ _ q1⟩
theorem aff_copy (W : World) (sv : Value) (l : List (Tx × Nat)) (hS : AfH W sv l) (hl : l.length ≤ 2) :
    ∃ v' w', (Builtin.append_ #[26, 26] 26 #[.slice (some ⟨W.heap.size, 0, none⟩) 0 0, sv]).run Try.prog (W.alloc (.cells #[] 25)) = .ok v' w' ∧ w'.ownsRow W.heap.size 25 2 v' l.length (afC l) ∧ Below W.heap.size W w' := by
  obtain ⟨i0, hi, hz0, hz1, hz2⟩ := infoAff
  have hO : (W.alloc (.cells #[] 25)).ownsRow W.heap.size 25 2 (.slice (some ⟨W.heap.size, 0, none⟩) 0 0) 0 [] := ⟨rfl, .inr ⟨W.heap.size, 0, #[], rfl, Nat.le_refl _, bare_nd _ _, Nat.le_refl _, by decide, rfl, rfl⟩⟩
  rcases hS with ⟨rfl, rfl⟩ | ⟨b, cs, c, rfl, h0, h1, h2, h3, h4⟩
  · exact ⟨_, _, nothing_srx (P := Try.prog) (W.alloc (.cells #[] 25)) 26 26 25 i0 Try.underlying26 hi (some ⟨W.heap.size, 0, none⟩) 0 0 0 (Nat.le_refl _), hO, below1 _ _⟩
  · have hbl := (Array.getElem?_eq_some_iff.1 h3).1
    have hnews : ∀ j u, (afC l)[j]? = some u → (W.alloc (.cells #[] 25)).cell? ((⟨b, 0, none⟩ : Addr).add j) = some u := fun j u hj => by
      rw [Addr.add_lit, Nat.zero_add]
      refine ((below1 W _).cell (p := ⟨b, j, none⟩) hbl).trans ?_
      rw [(obj_cells h3).1]
      have hlt : j < l.length * 2 := by rw [← afC_len]; exact (List.getElem?_eq_some_iff.1 hj).1
      have hi' : j / 2 < l.length := by omega
      obtain ⟨g0, g1⟩ := afC_get l (j / 2) hi'
      obtain ⟨q0, q1⟩ := h4 (j / 2) hi'
      have e : j = j / 2 * 2 + j % 2 := by omega
      have hm : j % 2 < 2 := Nat.mod_lt _ (by omega)
      generalize j % 2 = r at e hm
      match r, hm with
      | 0, _ => rw [e, Nat.add_zero] at hj ⊢; exact q0.trans (g0.symm.trans hj)
      | 1, _ => rw [e] at hj ⊢; exact q1.trans (g1.symm.trans hj)
    obtain ⟨v', w', hrun, hown, hgr, _, _⟩ := run_append_own_at (P := Try.prog) (W.alloc (.cells #[] 25)) W.heap.size 26 26 25 i0 _ 2 24 Try.underlying26 hi hz0 hz1 hz2 rfl (by decide) _ _ _ hO ⟨b, 0, none⟩ l.length c (afC l) (afC_len l) hnews (afC_one l) (by unfold maxLen; omega) (by omega) (by simp)
    rw [Nat.zero_add, List.nil_append] at hown
    exact ⟨v', w', hrun, hown, (below1 W _).grown hgr (by simp) (fun k hk => by cases hk; exact Nat.le_refl _)⟩
set_option maxHeartbeats 2000000 in
theorem cloneAff_any (v : Value) (l : List (Tx × Nat)) (w : World) (hS : AfH w v l) (hl : l.length ≤ 2) :
    Calls Try.prog 38 #[v] w fun e w' => ∃ v', e = .returned v' ∧ w'.ownsRow w.heap.size 25 2 v' l.length (afC l) ∧ Below w.heap.size w w' := by
  obtain ⟨va, wa, hra, hOa, hBa⟩ := aff_copy w v l hS hl
  rcases hS with ⟨rfl, rfl⟩ | ⟨b, cs, c, rfl, h0, -⟩
  · clear hra hOa hBa
    have hn := nilAf
    go_enter Try.func38, Try.ntmps38
    go_wp2
    go_ret
    exact ⟨_, rfl, World.ownsRow_nil _ _ _ _, Below.refl _ _⟩
  · have hn := someAf
    replace hra := Lib.hid hra
    replace hOa := Lib.hid hOa
    replace hBa := Lib.hid hBa
    generalize l.length = N at *
    go_enter Try.func38, Try.ntmps38
    go_wp2_with (at_builtin; refine wpList_append_rux _ wa rfl _ _ 26 rfl _ _ _ rfl rfl hra.out ?_)
    go_ret
    exact ⟨_, rfl, hOa.out, hBa.out⟩
end Go.Proofs.Ytoijpjmkjhoiaaa
