/-
  An element's tokens (write.Element). Conditions: at most 1000 tokens; each slice of attributes takes at most 2^47 bytes.
-/
import Derived.Test.YtjpdadibeocpfaaDoorWrElem
namespace Go.Proofs.YtjpdadibeocpfaaDoor
set_option linter.unusedVariables false
set_option linter.unusedSimpArgs false
open Go.RowKit Go.MapKept
def tkRow (p : Tk × Value) : List Value := [.int .u8 p.1.k, .string ⟨p.1.n.toArray⟩, p.2, .string ⟨p.1.t.toArray⟩]
def tkCells (ps : List (Tk × Value)) : List Value := ps.flatMap tkRow
theorem tkCells_cons (p : Tk × Value) (r : List (Tk × Value)) : tkCells (p :: r) = tkRow p ++ tkCells r := rfl
theorem tkCells_len (ps : List (Tk × Value)) : (tkCells ps).length = ps.length * 4 := by
  induction ps with
  | nil => rfl
  | cons p r ih => rw [tkCells_cons, List.length_append, ih]; simp only [tkRow, List.length_cons, List.length_nil]; omega
theorem tkCells_get (ps : List (Tk × Value)) : ∀ i (h : i < ps.length) (r : Nat), r < 4 → (tkCells ps)[i * 4 + r]? = (tkRow (ps[i]'h))[r]? := by
  induction ps with
  | nil => intro i h; cases h
  | cons p q ih =>
    intro i h r hr
    rw [tkCells_cons]
    cases i with
    | zero => rw [List.getElem?_append_left (by simp only [tkRow, List.length_cons, List.length_nil]; omega)]; simp
    | succ i =>
      rw [List.getElem?_append_right (by simp only [tkRow, List.length_cons, List.length_nil]; omega)]
      have := ih i (by simpa using h) r hr
      simp only [tkRow, List.length_cons, List.length_nil] at this ⊢
      rw [show (i + 1) * 4 + r - (0 + 1 + 1 + 1 + 1) = i * 4 + r by omega, this]
      simp
theorem tkCells_at {ps : List (Tk × Value)} {j : Nat} (h : j < ps.length * 4) : (tkCells ps)[j]? = (tkRow (ps[j / 4]'(by omega)))[j % 4]? := by
  have := tkCells_get ps (j / 4) (by omega) (j % 4) (by omega)
  rwa [show j / 4 * 4 + j % 4 = j by omega] at this
theorem tkCells_set (ps : List (Tk × Value)) : ∀ k (h : k < ps.length) (sv : Value), tkCells (ps.set k ((ps[k]'h).1, sv)) = (tkCells ps).set (k * 4 + 2) sv := by
  induction ps with
  | nil => intro k h; cases h
  | cons p r ih =>
    intro k h sv
    cases k with
    | zero => simp [tkCells_cons, tkRow]
    | succ k =>
      have := ih k (by simpa using h) sv
      simp only [List.set_cons_succ, List.getElem_cons_succ]
      rw [tkCells_cons, this, tkCells_cons]
      rw [List.set_append, if_neg (by simp only [tkRow, List.length_cons, List.length_nil]; omega)]
      simp only [tkRow, List.length_cons, List.length_nil]
      rw [show (k + 1) * 4 + 2 - (0 + 1 + 1 + 1 + 1) = k * 4 + 2 by omega]
theorem tkCells_one (ps : List (Tk × Value)) (h : ∀ p ∈ ps, ∃ a n c, p.2 = .slice a n c) : ∀ u ∈ tkCells ps, u.oneCell' = true := by
  intro u hu
  obtain ⟨p, hp, hu⟩ := List.mem_flatMap.1 hu
  obtain ⟨a, n, c, e⟩ := h p hp
  simp only [tkRow, List.mem_cons, List.mem_nil_iff, or_false] at hu
  rcases hu with rfl | rfl | rfl | rfl
  · rfl
  · rfl
  · rw [e]; rfl
  · rfl
/-- tokens in memory, with the values of their attributes -/
theorem TkS.pairs {w : World} {v : Value} {l : List Tk} (h : TkS w v l) : ∃ ps : List (Tk × Value), ps.map (·.1) = l ∧ (∀ p ∈ ps, AtS w p.2 p.1.as) ∧
    ((v = .slice none 0 0 ∨ ∃ c, v = .slice none 0 c) ∧ ps = [] ∨ ∃ ad c, v = .slice (some ad) ps.length c ∧ ∀ j u, (tkCells ps)[j]? = some u → w.cell? (ad.add j) = some u) := by
  obtain ⟨ptr, cap, rfl, h1, h2, h3⟩ := h
  rcases Nat.eq_zero_or_pos l.length with h0 | h0
  · obtain rfl := List.length_eq_zero_iff.1 h0
    refine ⟨[], rfl, fun _ h => (by cases h), ?_⟩
    cases ptr with
    | none => exact .inl ⟨.inr ⟨_, rfl⟩, rfl⟩
    | some ad => exact .inr ⟨ad, cap, rfl, fun j u hj => by simp [tkCells] at hj⟩
  · obtain ⟨b, o, rfl, hb, hc⟩ := h3 h0
    have hch : ∀ i : Fin l.length, ∃ sv, w.cell? ⟨b, o + i.1 * 4, none⟩ = some (.int .u8 l[i].k) ∧ w.cell? ⟨b, o + i.1 * 4 + 1, none⟩ = some (.string ⟨l[i].n.toArray⟩) ∧ w.cell? ⟨b, o + i.1 * 4 + 2, none⟩ = some sv ∧ w.cell? ⟨b, o + i.1 * 4 + 3, none⟩ = some (.string ⟨l[i].t.toArray⟩) ∧ AtS w sv l[i].as := fun i => hc i.1 i.2
    let f : Fin l.length → Tk × Value := fun i => (l[i], (hch i).choose)
    have hlen : (List.ofFn f).length = l.length := List.length_ofFn
    refine ⟨List.ofFn f, ?_, ?_, .inr ⟨⟨b, o, none⟩, cap, by rw [hlen], ?_⟩⟩
    · apply List.ext_getElem
      · simp
      · intro i h1 h2
        simp [f]
    · intro p hp
      obtain ⟨i, rfl⟩ := List.mem_ofFn.1 hp
      exact (hch i).choose_spec.2.2.2.2
    · intro j u hj
      have hj' : j < l.length * 4 := by
        have := (List.getElem?_eq_some_iff.1 hj).1
        rw [tkCells_len, hlen] at this
        exact this
      rw [tkCells_at (by rw [hlen]; exact hj')] at hj
      have hs := (hch ⟨j / 4, by omega⟩).choose_spec
      rw [List.getElem_ofFn] at hj
      rw [Addr.add_lit]
      have e : j = j / 4 * 4 + j % 4 := by omega
      have hm : j % 4 < 4 := Nat.mod_lt _ (by omega)
      generalize hr : j % 4 = r at *
      have eo : o + j = o + j / 4 * 4 + r := by omega
      rw [eo]
      match r, hm with
      | 0, _ => simp only [tkRow, f, List.getElem?_cons_zero, Option.some.injEq] at hj; subst hj; exact hs.1
      | 1, _ => simp only [tkRow, f, List.getElem?_cons_succ, List.getElem?_cons_zero, Option.some.injEq] at hj; subst hj; exact hs.2.1
      | 2, _ => simp only [tkRow, f, List.getElem?_cons_succ, List.getElem?_cons_zero, Option.some.injEq] at hj; subst hj; exact hs.2.2.1
      | 3, _ => simp only [tkRow, f, List.getElem?_cons_succ, List.getElem?_cons_zero, Option.some.injEq] at hj; subst hj; exact hs.2.2.2.1
theorem owns_set {w : World} {base : Nat} {e : TypeId} {g n c j : Nat} {xs : List Value} (u : Value) (h : w.ownsRow base e 4 (.slice (some ⟨g, 0, none⟩) n c) n xs) (hj : j < n * 4) : (w.setCell ⟨g, j, none⟩ u).ownsRow base e 4 (.slice (some ⟨g, 0, none⟩) n c) n (xs.set j u) := by
  refine ⟨by rw [List.length_set]; exact h.1, ?_⟩
  rcases h.2 with ⟨hv, _⟩ | ⟨g', cap, cur, hv, hb, hg, hnc, hcm, hcs, ht⟩
  · cases hv
  · injection hv with h1 h2 h3
    injection h1 with h1
    injection h1 with h1 _ _
    subst h1 h3
    refine .inr ⟨g, c, cur.setIfInBounds j u, rfl, hb, ?_, hnc, hcm, by simp [hcs], ?_⟩
    · simp [World.setCell, Array.getElem?_modify, hg]
    · rw [Array.toList_setIfInBounds, ← ht, List.take_set]
theorem owns_tks {w : World} {base n : Nat} {v : Value} {ps : List (Tk × Value)} (h : w.ownsRow base 35 4 v n (tkCells ps)) (hn : n = ps.length) (ha : ∀ p ∈ ps, AtS w p.2 p.1.as) : TkS w v (ps.map (·.1)) := by
  subst hn
  rcases h.2 with ⟨rfl, h0⟩ | ⟨g, cap, cur, rfl, hb, hg, h1, h2, -⟩
  · exact ⟨none, 0, by rw [List.length_map, h0], by rw [List.length_map]; omega, by simp, fun h' => absurd h' (by rw [List.length_map]; omega)⟩
  · refine ⟨some ⟨g, 0, none⟩, cap, by rw [List.length_map], by rw [List.length_map]; exact h1, h2, fun _ => ⟨g, 0, rfl, (Array.getElem?_eq_some_iff.1 hg).1, fun i hi => ?_⟩⟩
    rw [List.length_map] at hi
    have hc := World.ownsRow.cells h (g := g) rfl
    have k0 := hc (i * 4) (.int .u8 ps[i].1.k) (by have := tkCells_get ps i hi 0 (by omega); rw [Nat.add_zero] at this; rw [this]; rfl)
    have k1 := hc (i * 4 + 1) (.string ⟨ps[i].1.n.toArray⟩) (by rw [tkCells_get ps i hi 1 (by omega)]; rfl)
    have k2 := hc (i * 4 + 2) ps[i].2 (by rw [tkCells_get ps i hi 2 (by omega)]; rfl)
    have k3 := hc (i * 4 + 3) (.string ⟨ps[i].1.t.toArray⟩) (by rw [tkCells_get ps i hi 3 (by omega)]; rfl)
    simp only [Addr.add_lit] at k0 k1 k2 k3
    rw [List.getElem_map]
    exact ⟨ps[i].2, k0, by rw [Nat.add_assoc]; exact k1, by rw [Nat.add_assoc]; exact k2, by rw [Nat.add_assoc]; exact k3, ha _ (List.getElem_mem hi)⟩
end Go.Proofs.YtjpdadibeocpfaaDoor
