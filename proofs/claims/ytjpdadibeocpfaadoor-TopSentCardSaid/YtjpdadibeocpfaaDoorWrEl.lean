/-
  An element's tokens (write.Element). Conditions: each slice of attributes takes at most 2^47 bytes.
-/
import Derived.Test.YtjpdadibeocpfaaDoorWrTok
import Derived.Test.YtjpdadibeocpfaaDoorTxA
import Derived.Maps.AppendAt
import Derived.RangeFuncBox
import Derived.OwnWalk
import Derived.LoopTactic
import Derived.Deep.Upon
namespace Go.Proofs.YtjpdadibeocpfaaDoor
set_option linter.unusedVariables false
set_option linter.unusedSimpArgs false
open Go.RowKit Go.MapKept
theorem infoA : (Tryd.prog.info? 39).map (fun i => (i.zero, i.size, i.bytes)) = some (some (.agg #[.string ⟨#[]⟩, .string ⟨#[]⟩]), 2, 32) := by kernel_rfl
theorem infoT : (Tryd.prog.info? 35).map (fun i => (i.zero, i.size, i.bytes)) = some (some (.agg #[.int .u8 0, .string ⟨#[]⟩, .slice none 0 0, .string ⟨#[]⟩]), 4, 64) := by kernel_rfl
def atCells (al : Ats) : List Value := al.flatMap fun p => [.string ⟨p.1.toArray⟩, .string ⟨p.2.toArray⟩]
theorem atCells_len (al : Ats) : (atCells al).length = al.length * 2 := by
  induction al with
  | nil => rfl
  | cons p r ih => simp only [atCells, List.flatMap_cons, List.length_append, List.length_cons, List.length_nil] at ih ⊢; omega
theorem atCells_get (al : Ats) : ∀ i (h : i < al.length), (atCells al)[i * 2]? = some (.string ⟨(al[i]'h).1.toArray⟩) ∧ (atCells al)[i * 2 + 1]? = some (.string ⟨(al[i]'h).2.toArray⟩) := by
  induction al with
  | nil => intro i h; cases h
  | cons p r ih =>
    intro i h
    cases i with
    | zero => exact ⟨rfl, rfl⟩
    | succ i =>
      have := ih i (by simpa using h)
      rw [show (i + 1) * 2 = i * 2 + 1 + 1 by omega]
      exact this
theorem atCells_of (al : Ats) (j : Nat) (u : Value) (h : (atCells al)[j]? = some u) : (∃ i, ∃ hi : i < al.length, j = i * 2 ∧ u = .string ⟨(al[i]'hi).1.toArray⟩) ∨ (∃ i, ∃ hi : i < al.length, j = i * 2 + 1 ∧ u = .string ⟨(al[i]'hi).2.toArray⟩) := by
  have hj : j < al.length * 2 := by rw [← atCells_len]; exact (List.getElem?_eq_some_iff.1 h).1
  rcases Nat.mod_two_eq_zero_or_one j with h0 | h0
  · have e : j = j / 2 * 2 := by omega
    rw [e, (atCells_get al (j / 2) (by omega)).1] at h
    exact .inl ⟨j / 2, by omega, e, (Option.some.inj h).symm⟩
  · have e : j = j / 2 * 2 + 1 := by omega
    rw [e, (atCells_get al (j / 2) (by omega)).2] at h
    exact .inr ⟨j / 2, by omega, e, (Option.some.inj h).symm⟩
/-- a slice of attributes whose block meets a condition -/
def AtX (ok : Nat → Prop) (w : World) (sv : Value) (al : Ats) : Prop :=
  ∃ ptr cap, sv = .slice ptr al.length cap ∧ al.length ≤ cap ∧ cap ≤ maxLen ∧ (0 < al.length → ∃ b o, ptr = some ⟨b, o, none⟩ ∧ b < w.heap.size ∧ ok b ∧
    ∀ i (h : i < al.length), w.cell? ⟨b, o + i * 2, none⟩ = some (.string ⟨(al[i]'h).1.toArray⟩) ∧ w.cell? ⟨b, o + i * 2 + 1, none⟩ = some (.string ⟨(al[i]'h).2.toArray⟩))
theorem AtX.at {ok : Nat → Prop} {w : World} {sv : Value} {al : Ats} (h : AtX ok w sv al) : AtS w sv al := by
  obtain ⟨p, c, h1, h2, h3, h4⟩ := h
  exact ⟨p, c, h1, h2, h3, fun h0 => by obtain ⟨b, o, h5, h6, -, h7⟩ := h4 h0; exact ⟨b, o, h5, h6, h7⟩⟩
theorem AtS.x {w : World} {sv : Value} {al : Ats} (h : AtS w sv al) : AtX (fun b => b < w.heap.size) w sv al := by
  obtain ⟨p, c, h1, h2, h3, h4⟩ := h
  exact ⟨p, c, h1, h2, h3, fun h0 => by obtain ⟨b, o, h5, h6, h7⟩ := h4 h0; exact ⟨b, o, h5, h6, h6, h7⟩⟩
theorem AtX.mono {ok ok' : Nat → Prop} {w : World} {sv : Value} {al : Ats} (h : AtX ok w sv al) (hk : ∀ b, ok b → ok' b) : AtX ok' w sv al := by
  obtain ⟨p, c, h1, h2, h3, h4⟩ := h
  exact ⟨p, c, h1, h2, h3, fun h0 => by obtain ⟨b, o, h5, h6, h6', h7⟩ := h4 h0; exact ⟨b, o, h5, h6, hk b h6', h7⟩⟩
theorem AtX.keep {ok : Nat → Prop} {w w' : World} {sv : Value} {al : Ats} (h : AtX ok w sv al) (hs : w.heap.size ≤ w'.heap.size) (hb : ∀ b, b < w.heap.size → ok b → w'.heap[b]? = w.heap[b]?) : AtX ok w' sv al := by
  obtain ⟨p, c, h1, h2, h3, h4⟩ := h
  refine ⟨p, c, h1, h2, h3, fun h0 => ?_⟩
  obtain ⟨b, o, h5, h6, h6', h7⟩ := h4 h0
  have hc : ∀ j, w'.cell? ⟨b, j, none⟩ = w.cell? ⟨b, j, none⟩ := fun j => World.cell?_of_block (a := ⟨b, j, none⟩) (hb b h6 h6')
  exact ⟨b, o, h5, Nat.lt_of_lt_of_le h6 hs, h6', fun i hi => ⟨(hc _).trans (h7 i hi).1, (hc _).trans (h7 i hi).2⟩⟩
theorem atCells_one (al : Ats) : ∀ u ∈ atCells al, u.oneCell' = true := by
  intro u hu
  obtain ⟨j, hj⟩ := List.getElem?_of_mem hu
  rcases atCells_of al j u hj with ⟨i, hi', _, rfl⟩ | ⟨i, hi', _, rfl⟩ <;> rfl
theorem nilA (n c : Nat) (w : World) : (binOp .eql 33 (.slice none n c) (.slice none 0 0)).run Tryd.prog w = .ok (.bool true) w := by kernel_rfl
theorem someA (ad : Addr) (n c : Nat) (w : World) : (binOp .eql 33 (.slice (some ad) n c) (.slice none 0 0)).run Tryd.prog w = .ok (.bool false) w := by kernel_rfl
theorem owns_at {w : World} {base n : Nat} {v : Value} {al : Ats} (h : w.ownsRow base 39 2 v n (atCells al)) (hn : n = al.length) : AtX (fun b => base ≤ b) w v al := by
  subst hn
  rcases h.2 with ⟨rfl, h0⟩ | ⟨g, cap, cur, rfl, hb, hg, h1, h2, -⟩
  · exact ⟨none, 0, by rw [h0], by omega, by simp, fun h' => absurd h' (by omega)⟩
  · refine ⟨some ⟨g, 0, none⟩, cap, rfl, h1, h2, fun _ => ⟨g, 0, rfl, (Array.getElem?_eq_some_iff.1 hg).1, hb, fun i hi => ?_⟩⟩
    have hc := World.ownsRow.cells h (g := g) rfl
    have c0 := hc (i * 2) _ (atCells_get al i hi).1
    have c1 := hc (i * 2 + 1) _ (atCells_get al i hi).2
    rw [Addr.add_lit] at c0 c1
    refine ⟨c0, ?_⟩
    rw [Nat.add_assoc]
    exact c1
theorem clone_any (sv : Value) (al : Ats) (w : World) (h : AtS w sv al) (hl : al.length * 32 ≤ 140737488351232) :
    Calls Tryd.prog 23 #[sv] w fun e w' => ∃ sv', e = .returned sv' ∧ AtX (fun b => w.heap.size ≤ b) w' sv' al ∧ Below w.heap.size w w' := by
  obtain ⟨i0, hi, hz0, hz1, hz2⟩ := info_parts infoA
  obtain ⟨ptr, cap, rfl, hc1, hc2, hat⟩ := h
  cases ptr with
  | none =>
    have h0 : al = [] := by
      rcases Nat.eq_zero_or_pos al.length with h | h
      · exact List.length_eq_zero_iff.1 h
      · obtain ⟨b, o, hp, -⟩ := hat h; cases hp
    subst h0
    have hn := nilA
    go_enter Tryd.func23, Tryd.ntmps23
    go_wp2
    go_ret
    exact ⟨_, rfl, ⟨none, 0, rfl, by simp, by simp, fun h => absurd h (by simp)⟩, Below.refl _ _⟩
  | some ad =>
    have hn := someA
    have hO : (w.alloc (.cells #[] 39)).ownsRow w.heap.size 39 2 (.slice (some ⟨w.heap.size, 0, none⟩) 0 0) 0 [] := ⟨rfl, .inr ⟨w.heap.size, 0, #[], rfl, Nat.le_refl _, (heap_alloc _ _).1, Nat.le_refl _, by simp, rfl, rfl⟩⟩
    have hnews : ∀ j u, (atCells al)[j]? = some u → (w.alloc (.cells #[] 39)).cell? (ad.add j) = some u := by
      intro j u hj
      have hj' : j < al.length * 2 := by rw [← atCells_len]; exact (List.getElem?_eq_some_iff.1 hj).1
      obtain ⟨b, o, hp, hb, hcell⟩ := hat (by omega)
      have hp := Option.some.inj hp
      subst hp
      rw [Addr.add_lit, World.cell?_alloc_lt _ _ ⟨b, o + j, none⟩ hb]
      rcases atCells_of al j u hj with ⟨i, hi', rfl, rfl⟩ | ⟨i, hi', rfl, rfl⟩
      · exact (hcell i hi').1
      · rw [← Nat.add_assoc]; exact (hcell i hi').2
    go_enter Tryd.func23, Tryd.ntmps23
    go_wp2_with (at_builtin; refine wpList_append_own _ rfl _ _ 33 rfl w.heap.size 39 i0 (.agg #[.string ⟨#[]⟩, .string ⟨#[]⟩]) 2 32 Tryd.underlying33 hi hz0 hz1 hz2 rfl (by decide) _ _ _ rfl hO ad al.length cap (atCells al) rfl (atCells_len al) hnews (atCells_one al) (by unfold maxLen; omega) (by omega) (by simp) ?_; intro v' w2 hO2 hg2 _)
    go_ret
    rw [Nat.zero_add, List.nil_append] at hO2
    refine ⟨_, rfl, ?_, (below1 w _).grown hg2 (by simp) (fun k hk => by cases hk; exact Nat.le_refl _)⟩
    exact owns_at hO2 rfl
end Go.Proofs.YtjpdadibeocpfaaDoor
/-
  An element's tokens (write.Element). Conditions: at most 1000 tokens; each slice of attributes takes at most 2^47 bytes.
-/
namespace Go.Proofs.YtjpdadibeocpfaaDoor
set_option linter.unusedVariables false
set_option linter.unusedSimpArgs false
open Go.RowKit Go.MapKept
def tkRow (p : Tk × Value) : List Value := [.int .u8 p.1.k, .string ⟨p.1.n.toArray⟩, p.2, .string ⟨p.1.t.toArray⟩]
def tkCells (ps : List (Tk × Value)) : List Value := ps.flatMap tkRow
theorem tkCells_cons (p : Tk × Value) (r : List (Tk × Value)) : tkCells (p :: r) = tkRow p ++ tkCells r := rfl
theorem tkCells_len (ps : List (Tk × Value)) : (tkCells ps).length = ps.length * 4 := by
  induction ps with
  | nil => rfl
  | cons p r ih => rw [tkCells_cons, List.length_append, ih]; simp only [tkRow, List.length_cons, List.length_nil]; omega
theorem tkCells_get (ps : List (Tk × Value)) : ∀ i (h : i < ps.length) (r : Nat), r < 4 → (tkCells ps)[i * 4 + r]? = (tkRow (ps[i]'h))[r]? := by
  induction ps with
  | nil => intro i h; cases h
  | cons p q ih =>
    intro i h r hr
    rw [tkCells_cons]
    cases i with
    | zero => rw [List.getElem?_append_left (by simp only [tkRow, List.length_cons, List.length_nil]; omega)]; simp
    | succ i =>
      rw [List.getElem?_append_right (by simp only [tkRow, List.length_cons, List.length_nil]; omega)]
      have := ih i (by simpa using h) r hr
      simp only [tkRow, List.length_cons, List.length_nil] at this ⊢
      rw [show (i + 1) * 4 + r - (0 + 1 + 1 + 1 + 1) = i * 4 + r by omega, this]
      simp
theorem tkCells_at {ps : List (Tk × Value)} {j : Nat} (h : j < ps.length * 4) : (tkCells ps)[j]? = (tkRow (ps[j / 4]'(by omega)))[j % 4]? := by
  have := tkCells_get ps (j / 4) (by omega) (j % 4) (by omega)
  rwa [show j / 4 * 4 + j % 4 = j by omega] at this
theorem tkCells_set (ps : List (Tk × Value)) : ∀ k (h : k < ps.length) (sv : Value), tkCells (ps.set k ((ps[k]'h).1, sv)) = (tkCells ps).set (k * 4 + 2) sv := by
  induction ps with
  | nil => intro k h; cases h
  | cons p r ih =>
    intro k h sv
    cases k with
    | zero => simp [tkCells_cons, tkRow]
    | succ k =>
      have := ih k (by simpa using h) sv
      simp only [List.set_cons_succ, List.getElem_cons_succ]
      rw [tkCells_cons, this, tkCells_cons]
      rw [List.set_append, if_neg (by simp only [tkRow, List.length_cons, List.length_nil]; omega)]
      simp only [tkRow, List.length_cons, List.length_nil]
      rw [show (k + 1) * 4 + 2 - (0 + 1 + 1 + 1 + 1) = k * 4 + 2 by omega]
theorem tkCells_one (ps : List (Tk × Value)) (h : ∀ p ∈ ps, ∃ a n c, p.2 = .slice a n c) : ∀ u ∈ tkCells ps, u.oneCell' = true := by
  intro u hu
  obtain ⟨p, hp, hu⟩ := List.mem_flatMap.1 hu
  obtain ⟨a, n, c, e⟩ := h p hp
  simp only [tkRow, List.mem_cons, List.mem_nil_iff, or_false] at hu
  rcases hu with rfl | rfl | rfl | rfl
  · rfl
  · rfl
  · rw [e]; rfl
  · rfl
/-- tokens in memory, with the values of their attributes -/
theorem TkS.pairs {w : World} {v : Value} {l : List Tk} (h : TkS w v l) : ∃ ps : List (Tk × Value), ps.map (·.1) = l ∧ (∀ p ∈ ps, AtS w p.2 p.1.as) ∧
    ((v = .slice none 0 0 ∨ ∃ c, v = .slice none 0 c) ∧ ps = [] ∨ ∃ ad c, v = .slice (some ad) ps.length c ∧ ∀ j u, (tkCells ps)[j]? = some u → w.cell? (ad.add j) = some u) := by
  obtain ⟨ptr, cap, rfl, h1, h2, h3⟩ := h
  rcases Nat.eq_zero_or_pos l.length with h0 | h0
  · obtain rfl := List.length_eq_zero_iff.1 h0
    refine ⟨[], rfl, fun _ h => (by cases h), ?_⟩
    cases ptr with
    | none => exact .inl ⟨.inr ⟨_, rfl⟩, rfl⟩
    | some ad => exact .inr ⟨ad, cap, rfl, fun j u hj => by simp [tkCells] at hj⟩
  · obtain ⟨b, o, rfl, hb, hc⟩ := h3 h0
    have hch : ∀ i : Fin l.length, ∃ sv, w.cell? ⟨b, o + i.1 * 4, none⟩ = some (.int .u8 l[i].k) ∧ w.cell? ⟨b, o + i.1 * 4 + 1, none⟩ = some (.string ⟨l[i].n.toArray⟩) ∧ w.cell? ⟨b, o + i.1 * 4 + 2, none⟩ = some sv ∧ w.cell? ⟨b, o + i.1 * 4 + 3, none⟩ = some (.string ⟨l[i].t.toArray⟩) ∧ AtS w sv l[i].as := fun i => hc i.1 i.2
    let f : Fin l.length → Tk × Value := fun i => (l[i], (hch i).choose)
    have hlen : (List.ofFn f).length = l.length := List.length_ofFn
    refine ⟨List.ofFn f, ?_, ?_, .inr ⟨⟨b, o, none⟩, cap, by rw [hlen], ?_⟩⟩
    · apply List.ext_getElem
      · simp
      · intro i h1 h2
        simp [f]
    · intro p hp
      obtain ⟨i, rfl⟩ := List.mem_ofFn.1 hp
      exact (hch i).choose_spec.2.2.2.2
    · intro j u hj
      have hj' : j < l.length * 4 := by
        have := (List.getElem?_eq_some_iff.1 hj).1
        rw [tkCells_len, hlen] at this
        exact this
      rw [tkCells_at (by rw [hlen]; exact hj')] at hj
      have hs := (hch ⟨j / 4, by omega⟩).choose_spec
      rw [List.getElem_ofFn] at hj
      rw [Addr.add_lit]
      have e : j = j / 4 * 4 + j % 4 := by omega
      have hm : j % 4 < 4 := Nat.mod_lt _ (by omega)
      generalize hr : j % 4 = r at *
      have eo : o + j = o + j / 4 * 4 + r := by omega
      rw [eo]
      match r, hm with
      | 0, _ => simp only [tkRow, f, List.getElem?_cons_zero, Option.some.injEq] at hj; subst hj; exact hs.1
      | 1, _ => simp only [tkRow, f, List.getElem?_cons_succ, List.getElem?_cons_zero, Option.some.injEq] at hj; subst hj; exact hs.2.1
      | 2, _ => simp only [tkRow, f, List.getElem?_cons_succ, List.getElem?_cons_zero, Option.some.injEq] at hj; subst hj; exact hs.2.2.1
      | 3, _ => simp only [tkRow, f, List.getElem?_cons_succ, List.getElem?_cons_zero, Option.some.injEq] at hj; subst hj; exact hs.2.2.2.1
theorem owns_set {w : World} {base : Nat} {e : TypeId} {g n c j : Nat} {xs : List Value} (u : Value) (h : w.ownsRow base e 4 (.slice (some ⟨g, 0, none⟩) n c) n xs) (hj : j < n * 4) : (w.setCell ⟨g, j, none⟩ u).ownsRow base e 4 (.slice (some ⟨g, 0, none⟩) n c) n (xs.set j u) := by
  refine ⟨by rw [List.length_set]; exact h.1, ?_⟩
  rcases h.2 with ⟨hv, _⟩ | ⟨g', cap, cur, hv, hb, hg, hnc, hcm, hcs, ht⟩
  · cases hv
  · injection hv with h1 h2 h3
    injection h1 with h1
    injection h1 with h1 _ _
    subst h1 h3
    refine .inr ⟨g, c, cur.setIfInBounds j u, rfl, hb, ?_, hnc, hcm, by simp [hcs], ?_⟩
    · simp [World.setCell, Array.getElem?_modify, hg]
    · rw [Array.toList_setIfInBounds, ← ht, List.take_set]
theorem owns_tks {w : World} {base n : Nat} {v : Value} {ps : List (Tk × Value)} (h : w.ownsRow base 35 4 v n (tkCells ps)) (hn : n = ps.length) (ha : ∀ p ∈ ps, AtS w p.2 p.1.as) : TkS w v (ps.map (·.1)) := by
  subst hn
  rcases h.2 with ⟨rfl, h0⟩ | ⟨g, cap, cur, rfl, hb, hg, h1, h2, -⟩
  · exact ⟨none, 0, by rw [List.length_map, h0], by rw [List.length_map]; omega, by simp, fun h' => absurd h' (by rw [List.length_map]; omega)⟩
  · refine ⟨some ⟨g, 0, none⟩, cap, by rw [List.length_map], by rw [List.length_map]; exact h1, h2, fun _ => ⟨g, 0, rfl, (Array.getElem?_eq_some_iff.1 hg).1, fun i hi => ?_⟩⟩
    rw [List.length_map] at hi
    have hc := World.ownsRow.cells h (g := g) rfl
    have k0 := hc (i * 4) (.int .u8 ps[i].1.k) (by have := tkCells_get ps i hi 0 (by omega); rw [Nat.add_zero] at this; rw [this]; rfl)
    have k1 := hc (i * 4 + 1) (.string ⟨ps[i].1.n.toArray⟩) (by rw [tkCells_get ps i hi 1 (by omega)]; rfl)
    have k2 := hc (i * 4 + 2) ps[i].2 (by rw [tkCells_get ps i hi 2 (by omega)]; rfl)
    have k3 := hc (i * 4 + 3) (.string ⟨ps[i].1.t.toArray⟩) (by rw [tkCells_get ps i hi 3 (by omega)]; rfl)
    simp only [Addr.add_lit] at k0 k1 k2 k3
    rw [List.getElem_map]
    exact ⟨ps[i].2, k0, by rw [Nat.add_assoc]; exact k1, by rw [Nat.add_assoc]; exact k2, by rw [Nat.add_assoc]; exact k3, ha _ (List.getElem_mem hi)⟩
end Go.Proofs.YtjpdadibeocpfaaDoor
/-
  An element's tokens (write.Element), walked. Conditions: at most 1000 tokens; each slice of attributes takes at most 2^47 bytes.
-/
namespace Go.Proofs.YtjpdadibeocpfaaDoor
set_option linter.unusedVariables false
set_option linter.unusedSimpArgs false
open Go.RowKit Go.MapKept
/-- P4.2 -/
def elemL (name : List UInt8) (al : Ats) (tks : List Tk) : List Tk := ⟨1, name, al, []⟩ :: (tks ++ [⟨2, name, [], []⟩])
theorem cells_new (w : World) (xs : List Value) (t : TypeId) : ∀ j u, xs[j]? = some u → (w.alloc (.cells xs.toArray t)).cell? ((⟨w.heap.size, 0, none⟩ : Addr).add j) = some u := by
  intro j u h
  rw [Addr.add_lit, Nat.zero_add, World.cell?_alloc_new]
  simpa using h
theorem owns_val {w : World} {base : Nat} {e : TypeId} {size : Nat} {v : Value} {n : Nat} {xs : List Value} (h : w.ownsRow base e size v n xs) : ∃ a c, v = .slice a n c := by
  rcases h.2 with ⟨hv, h0⟩ | ⟨g, cap, cur, hv, _⟩
  · exact ⟨_, _, by rw [hv, h0]⟩
  · exact ⟨_, _, hv⟩
theorem nothing_src {P : Program} (w : World) (t ty e : TypeId) (i : TypeInfo) (ht : P.underlying t = some (.slice e)) (hi : P.info? e = some i) (a : Option Addr) (n c c' : Nat) (h : n ≤ c) : (Builtin.append_ #[t, t] ty #[.slice a n c, .slice none 0 c']).run P w = .ok (.slice a n c) w :=
  run_append_nothing w t t ty e i ht hi a n c h _ (Src.ofNil w ht c')
theorem owns_le {w : World} {base : Nat} {e : TypeId} {size n c : Nat} {a : Option Addr} {xs : List Value} (h : w.ownsRow base e size (.slice a n c) n xs) : n ≤ c := by
  rcases h.2 with ⟨hv, h0⟩ | ⟨g, cap, cur, hv, _, _, h1, _⟩
  · omega
  · injection hv with _ _ h3
    omega
theorem wpList_append_same {P : Program} (w : World) {ops : Array Oper} {rest : List Oper} {o : Oper} {a : Act} {Q : Exit → Act → World → Prop} (hgd : o.guard = none) (s x : Operand) (t : TypeId)
    (ho : o.op = .call { callee := .builtin .append, args := #[s, x], argTypes := #[t, t] }) (v u : Value) (hs : a.eval s = v) (hx : a.eval x = u)
    (hrun : (Builtin.append_ #[t, t] o.type #[v, u]).run P w = .ok v w) (h : wpList P ops Q rest (a.put o.dst v) w) : wpList P ops Q (o :: rest) a w := by
  refine wpList_plain hgd fun K hK => ?_
  unfold Oper.wp execOp
  simp only [ho, resolve, invoke, builtin, Sem.run_bind, Sem.run_pure, Result.andThen_ok, List.map_toArray, List.map_cons, List.map_nil, hs, hx, hrun]
  exact hK _ _ h
theorem owns_keep2 {w w' : World} {base : Nat} {e : TypeId} {size : Nat} {v : Value} {n : Nat} {xs : List Value} (h : w.ownsRow base e size v n xs) (hk : ∀ g, g < w.heap.size → w'.heap[g]? = w.heap[g]?) : w'.ownsRow base e size v n xs := by
  refine ⟨h.1, ?_⟩
  rcases h.2 with h2 | ⟨g, cap, cur, h1, h2, h3, h4⟩
  · exact .inl h2
  · exact .inr ⟨g, cap, cur, h1, h2, (hk g (Array.getElem?_eq_some_iff.1 h3).1).trans h3, h4⟩
theorem cell_lt {w : World} {a : Addr} {u : Value} (h : w.cell? a = some u) : a.block < w.heap.size := by
  rcases Nat.lt_or_ge a.block w.heap.size with h' | h'
  · exact h'
  · simp [World.cell?, Array.getElem?_eq_none h'] at h
theorem owns_head {w : World} {base : Nat} {e : TypeId} {size : Nat} {v : Value} {n : Nat} {xs : List Value} (h : w.ownsRow base e size v n xs) (hn : 0 < n) : ∃ g c, v = .slice (some ⟨g, 0, none⟩) n c ∧ base ≤ g ∧ g < w.heap.size := by
  rcases h.2 with ⟨_, h0⟩ | ⟨g, cap, cur, hv, hb, hg, _⟩
  · omega
  · exact ⟨g, cap, hv, hb, (Array.getElem?_eq_some_iff.1 hg).1⟩
theorem owns_frozen {w : World} {base : Nat} {e : TypeId} {size g c n : Nat} {xs : List Value} (h : w.ownsRow base e size (.slice (some ⟨g, 0, none⟩) n c) n xs) (j : Nat) : w.frozen? ⟨g, j, none⟩ = false := by
  rcases h.2 with ⟨hv, _⟩ | ⟨g', cap, cur, hv, hb, hg, _⟩
  · cases hv
  · injection hv with h1
    injection h1 with h1
    injection h1 with h1 _ _
    subst h1
    simp [World.frozen?, hg]
/-- tokens that lie in blocks from n on alone: whatever changes elsewhere, they stay -/
def TkF (n : Nat) (w : World) (v : Value) (l : List Tk) : Prop := ∀ W : World, w.heap.size ≤ W.heap.size → (∀ b, n ≤ b → b < w.heap.size → W.heap[b]? = w.heap[b]?) → TkS W v l
theorem TkF.tks {n : Nat} {w : World} {v : Value} {l : List Tk} (h : TkF n w v l) : TkS w v l := h w (Nat.le_refl _) (fun _ _ _ => rfl)
theorem TkF.mono {n m : Nat} {w : World} {v : Value} {l : List Tk} (h : TkF n w v l) (hm : m ≤ n) : TkF m w v l := fun W h1 h2 => h W h1 (fun b hb hb' => h2 b (by omega) hb')
theorem TkF.keep {n : Nat} {w w' : World} {v : Value} {l : List Tk} (h : TkF n w v l) (hs : w.heap.size ≤ w'.heap.size) (hb : ∀ b, n ≤ b → b < w.heap.size → w'.heap[b]? = w.heap[b]?) : TkF n w' v l := fun W h1 h2 => h W (Nat.le_trans hs h1) (fun b h3 h4 => (h2 b h3 (by omega)).trans (hb b h3 h4))
set_option maxHeartbeats 4000000 in
theorem element_any (name : List UInt8) (sv iv : Value) (al : Ats) (tks : List Tk) (w : World) (hA : AtS w sv al) (hal : al.length * 32 ≤ 140737488351232) (hT : TkS w iv tks) (htl : tks.length ≤ 1000) (hat : ∀ tk ∈ tks, tk.as.length * 32 ≤ 140737488351232) :
    Calls Tryd.prog 9 #[.string ⟨name.toArray⟩, sv, iv] w fun e w' => ∃ v, e = .returned v ∧ TkS w' v (elemL name al tks) ∧ Below w.heap.size w w' := by
  obtain ⟨i0, hi, hz0, hz1, hz2⟩ := info_parts infoT
  obtain ⟨ps0, hps, hpa, hsrc⟩ := hT.pairs
  obtain ⟨w1, hmk, hO0, hg0⟩ := run_make_own (P := Tryd.prog) w w.heap.size 25 35 i0 _ 4 Tryd.underlying25 hi hz0 hz1 .i64 .i64 (tks.length + 2) (by rw [hz2]; omega) (by unfold maxLen; omega) (Nat.le_refl _)
  obtain ⟨svp, svc, rfl⟩ : ∃ a c, sv = .slice a al.length c := by obtain ⟨a, c, h, -⟩ := hA; exact ⟨a, c, h⟩
  obtain ⟨ivp, ivc, rfl⟩ : ∃ a c, iv = .slice a tks.length c := by obtain ⟨a, c, h, -⟩ := hT; exact ⟨a, c, h⟩
  have hlen : ps0.length = tks.length := by rw [← hps, List.length_map]
  have hs1 := hg0.size
  rw [show ((tks.length + 2 : Nat) : Int) = (tks.length : Int) + 2 from by omega] at hmk
  have hO0' := hO0.alloc (.cells #[.int .u8 1, .string ⟨name.toArray⟩, .slice svp al.length svc, .string ⟨#[]⟩] 35)
  have one1 := tkCells_one [(⟨1, name, al, []⟩, .slice svp al.length svc)] (by intro p hp; rw [List.mem_singleton.1 hp]; exact ⟨_, _, _, rfl⟩)
  have one2 := tkCells_one [(⟨2, name, [], []⟩, .slice none 0 0)] (by intro p hp; rw [List.mem_singleton.1 hp]; exact ⟨_, _, _, rfl⟩)
  have one0 := tkCells_one ps0 (by intro p hp; obtain ⟨a, c, h, -⟩ := hpa p hp; exact ⟨_, _, _, h⟩)
  obtain ⟨PS, hPS⟩ : ∃ PS : List (Tk × Value), PS = (⟨1, name, al, []⟩, .slice svp al.length svc) :: (ps0 ++ [(⟨2, name, [], []⟩, .slice none 0 0)]) := ⟨_, rfl⟩
  have hPSm : PS.map (·.1) = elemL name al tks := by rw [hPS]; simp [elemL, hps]
  have hPSc : tkCells PS = tkCells [(⟨1, name, al, []⟩, .slice svp al.length svc)] ++ tkCells ps0 ++ tkCells [(⟨2, name, [], []⟩, .slice none 0 0)] := by rw [hPS]; simp [tkCells]
  have hPSa : ∀ p ∈ PS, AtX (fun b => b < w.heap.size) w p.2 p.1.as := by
    intro p hp
    rw [hPS] at hp
    rcases List.mem_cons.1 hp with rfl | hp
    · exact hA.x
    · rcases List.mem_append.1 hp with hp | hp
      · exact (hpa p hp).x
      · rw [List.mem_singleton.1 hp]
        exact ⟨none, 0, rfl, Nat.le_refl _, by simp, fun h => absurd h (by simp)⟩
  obtain ⟨N, hNN⟩ : ∃ N, 1 + tks.length + 1 = N := ⟨_, rfl⟩
  have hLN : (elemL name al tks).length = N := by simp [elemL]; omega
  have hbound : ∀ tk ∈ elemL name al tks, tk.as.length * 32 ≤ 140737488351232 := by
    intro tk htk
    simp only [elemL, List.mem_cons, List.mem_append, List.mem_nil_iff, or_false] at htk
    rcases htk with rfl | h | rfl
    · exact hal
    · exact hat tk h
    · simp
  clear hPS
  replace hPSm := Lib.hid hPSm
  replace hPSc := Lib.hid hPSc
  replace hPSa := Lib.hid hPSa
  have hN1000 : N ≤ 1002 := by omega
  replace hNN := Lib.hid hNN
  replace hLN := Lib.hid hLN
  replace hbound := Lib.hid hbound
  replace hps := Lib.hid hps
  replace hlen := Lib.hid hlen
  rcases hsrc with ⟨hv, hp0⟩ | ⟨ad, c0, hv, hsr⟩
  · have ht0 : tks.length = 0 := by rw [← hlen.out, hp0]; rfl
    have hN2 : Hid (1 + 1 = N) := Lib.hid (by rw [← hNN.out, ht0])
    replace ht0 := Lib.hid ht0
    have hvn : ivp = none := by rcases hv with h | ⟨c, h⟩ <;> (injection h)
    subst hvn
    clear hv
    go_enter Tryd.func9, Tryd.ntmps9
    go_wp2_with (first
      | (have m0 := m2; at_builtin; refine wpList_append_own _ rfl _ _ 25 rfl w.heap.size 35 i0 _ 4 64 Tryd.underlying25 hi hz0 hz1 hz2 rfl (by decide) _ _ _ rfl (hO2.alloc _) ⟨w2.heap.size, 0, none⟩ 1 1 (tkCells [(⟨2, name, [], []⟩, .slice none 0 0)]) rfl rfl (cells_new w2 _ _) one2 (by unfold maxLen; omega) (by omega) (by simp only [World.size_alloc]; omega) ?_
         intro v4 w4 hO4 hg4 _
         have hb4 : Below w.heap.size w w4 := (hb2.alloc hs2 _).grown hg4 (by simp only [World.size_alloc]; omega) (fun k hk => (hO2.lt k hk).1)
         replace hO4 : w4.ownsRow w.heap.size 35 4 v4 N (tkCells PS) := by rw [hPSc.out, hp0, show tkCells [] = [] from rfl, List.append_nil]; exact hN2.out ▸ hO4
         obtain ⟨g, c4, rfl, hg, hgs⟩ := owns_head hO4 (by have := hNN.out; omega))
      | (have m0 := m1; at_builtin; refine wpList_append_same _ rfl _ _ 25 rfl _ _ rfl rfl (hnil _) ?_
         have m2 := True.intro)
      | (at_builtin; refine wpList_append_own _ rfl _ _ 25 rfl w.heap.size 35 i0 _ 4 64 Tryd.underlying25 hi hz0 hz1 hz2 rfl (by decide) _ _ _ rfl hO0' ⟨w1.heap.size, 0, none⟩ 1 1 (tkCells [(⟨1, name, al, []⟩, .slice svp al.length svc)]) rfl rfl (cells_new w1 _ _) one1 (by unfold maxLen; omega) (by omega) (by simp only [World.size_alloc]; omega) ?_
         intro v2 w2 hO2 hg2 _
         rw [List.nil_append, Nat.zero_add] at hO2
         obtain ⟨a2, c2, rfl⟩ := owns_val hO2
         have hb2 : Below w.heap.size w w2 := (((Below.refl w.heap.size w).grown hg0 (Nat.le_refl _) (fun _ e => by cases e)).alloc hs1 _).grown hg2 (by simp only [World.size_alloc]; omega) (fun k hk => by cases hk; exact Nat.le_refl _)
         have hs2 := hb2.size
         have hnil : ∀ W : World, (Builtin.append_ #[25, 25] 25 #[.slice a2 1 c2, .slice none tks.length ivc]).run Tryd.prog W = .ok (.slice a2 1 c2) W := fun W => by rw [ht0.out]; exact nothing_src (P := Tryd.prog) W 25 25 35 i0 Tryd.underlying25 hi a2 1 c2 ivc (owns_le hO2)
         have m1 := True.intro))
    go_loopw [28] (fun i wr => ∃ (k : Nat) (ps : List (Tk × Value)), k ≤ N ∧ i = .int .i64 k ∧ ps.map (·.1) = elemL name al tks ∧ Hid (wr.ownsRow w.heap.size 35 4 (.slice (some ⟨g, 0, none⟩) N c4) N (tkCells ps)) ∧ Hid (∀ p ∈ ps, AtX (fun b => b ≠ g) wr p.2 p.1.as) ∧ Hid (Below w.heap.size w wr)) (fun i _ => N - (intOf i).toNat)
    case atStart =>
      refine ⟨0, PS, Nat.zero_le _, rfl, hPSm.out, hO4, ?_, hb4⟩
      intro p hp
      refine AtX.mono (ok := fun b => b < w.heap.size) ?_ (fun b hb => by omega)
      exact AtX.keep (hPSa.out p hp) hb4.size (fun b hb _ => hb4.block b hb)
    case round =>
      obtain ⟨k, ps, hk, rfl, hpm, hO, hX, hB⟩ := hrel
      have hpl : ps.length = N := by rw [← List.length_map (f := (·.1)), hpm, hLN.out]
      by_cases hlt : k < N
      · have hlt' : k < ps.length := by omega
        have hgl : g < wr.heap.size := ((hO.out.lt g rfl).2)
        have hxk := hX.out ps[k] (List.getElem_mem hlt')
        have hbd : ps[k].1.as.length * 32 ≤ 140737488351232 := by
          refine hbound.out ps[k].1 ?_
          rw [← hpm]
          exact List.mem_map.2 ⟨ps[k], List.getElem_mem hlt', rfl⟩
        have c2k : wr.cell? ⟨g, k * 4 + 2, none⟩ = some ps[k].2 := by
          have := World.ownsRow.cells hO.out (g := g) rfl (k * 4 + 2) ps[k].2 (by rw [tkCells_get ps k hlt' 2 (by omega)]; rfl)
          rwa [Addr.add_lit, Nat.zero_add] at this
        have f2k := owns_frozen hO.out (k * 4 + 2)
        have hset := tkCells_set ps k hlt'
        obtain ⟨pv, hpv⟩ : ∃ z, ps[k].2 = z := ⟨_, rfl⟩
        rw [hpv] at hxk c2k
        obtain ⟨pp, pc, hsh⟩ : ∃ a c, pv = .slice a ps[k].1.as.length c := by obtain ⟨a, c, h, -⟩ := hxk; exact ⟨a, c, h⟩
        subst hsh
        have hcl := clone_any _ _ _ hxk.at hbd
        go_wp2_with (go_at_call 23; refine hcl.mono ?_; rintro e w5 ⟨sv', rfl, hX5, hb5⟩; have c5 := ((bat hb5 g hgl).1 (k * 4 + 2)).trans c2k; have f5 := ((bat hb5 g hgl).2 (k * 4 + 2)).trans f2k; obtain ⟨sp, sc, hsv⟩ : ∃ a c, sv' = .slice a ps[k].1.as.length c := by obtain ⟨a, c, h, -⟩ := hX5; exact ⟨a, c, h⟩
                     subst hsv)
        go_roundw
        case rel =>
          have hO6 := owns_set (j := k * 4 + 2) (.slice sp ps[k].1.as.length sc) (owns_keep2 hO.out (fun b hb => hb5.block b hb)) (by omega)
          rw [← hset] at hO6
          have hother : ∀ b, b ≠ g → (w5.setCell ⟨g, k * 4 + 2, none⟩ (.slice sp ps[k].1.as.length sc)).heap[b]? = w5.heap[b]? := fun b hb => Below.heap_setCell _ _ _ _ hb
          have hsz6 : (w5.setCell ⟨g, k * 4 + 2, none⟩ (.slice sp ps[k].1.as.length sc)).heap.size = w5.heap.size := by simp [World.setCell]
          refine ⟨k + 1, ps.set k (ps[k].1, .slice sp ps[k].1.as.length sc), by omega, by go_num, ?_, hO6, ?_, (belowT hB hb5).setCell (p := ⟨g, k * 4 + 2, none⟩) hg _⟩
          · rw [← hpm, List.map_set]
            apply List.ext_getElem
            · simp
            · intro i h1 h2
              rw [List.getElem_set]
              split
              · rename_i e; subst e; simp
              · rfl
          · intro p hp
            rcases List.mem_or_eq_of_mem_set hp with hp | rfl
            · refine AtX.keep (hX.out p hp) (by rw [hsz6]; exact hb5.size) (fun b hb hbg => (hother b hbg).trans (hb5.block b hb))
            · refine AtX.keep (AtX.mono hX5 (fun b hb => by omega)) (by rw [hsz6]; exact Nat.le_refl _) (fun b hb hbg => hother b hbg)
        case measure => simp [intOf]; omega
      · have hkN : k = N := by omega
        go_wp2
        go_ret
        refine ⟨_, rfl, ?_, hB⟩
        rw [← hpm]
        exact owns_tks hO.out hpl.symm (fun p hp => (hX.out p hp).at)
  · injection hv with hv1 hv2 hv3; clear hv2 hv3
    subst hv1
    go_enter Tryd.func9, Tryd.ntmps9
    go_wp2_with (first
      | (have m0 := m2; at_builtin; refine wpList_append_own _ rfl _ _ 25 rfl w.heap.size 35 i0 _ 4 64 Tryd.underlying25 hi hz0 hz1 hz2 rfl (by decide) _ _ _ rfl (hO3.alloc _) ⟨w3.heap.size, 0, none⟩ 1 1 (tkCells [(⟨2, name, [], []⟩, .slice none 0 0)]) rfl rfl (cells_new w3 _ _) one2 (by unfold maxLen; omega) (by omega) (by simp only [World.size_alloc]; omega) ?_
         intro v4 w4 hO4 hg4 _
         have hb4 : Below w.heap.size w w4 := (hb3.alloc hs3 _).grown hg4 (by simp only [World.size_alloc]; omega) (fun k hk => (hO3.lt k hk).1)
         replace hO4 : w4.ownsRow w.heap.size 35 4 v4 N (tkCells PS) := by rw [hPSc.out]; exact hNN.out ▸ hO4
         obtain ⟨g, c4, rfl, hg, hgs⟩ := owns_head hO4 (by have := hNN.out; omega))
      | (have m0 := m1; at_builtin; refine wpList_append_own _ rfl _ _ 25 rfl w.heap.size 35 i0 _ 4 64 Tryd.underlying25 hi hz0 hz1 hz2 rfl (by decide) _ _ _ rfl hO2 ad tks.length ivc (tkCells ps0) rfl (by rw [tkCells_len, hlen.out]) (fun j u hj => (hb2.cell (cell_lt (hsr j u hj))).trans (hsr j u hj)) one0 (by unfold maxLen; omega) (by omega) (by omega) ?_
         intro v3 w3 hO3 hg3 _
         have hb3 : Below w.heap.size w w3 := hb2.grown hg3 (by omega) (fun k hk => (hO2.lt k hk).1)
         have hs3 := hb3.size
         have m2 := True.intro)
      | (at_builtin; refine wpList_append_own _ rfl _ _ 25 rfl w.heap.size 35 i0 _ 4 64 Tryd.underlying25 hi hz0 hz1 hz2 rfl (by decide) _ _ _ rfl hO0' ⟨w1.heap.size, 0, none⟩ 1 1 (tkCells [(⟨1, name, al, []⟩, .slice svp al.length svc)]) rfl rfl (cells_new w1 _ _) one1 (by unfold maxLen; omega) (by omega) (by simp only [World.size_alloc]; omega) ?_
         intro v2 w2 hO2 hg2 _
         rw [List.nil_append, Nat.zero_add] at hO2
         obtain ⟨a2, c2, rfl⟩ := owns_val hO2
         have hb2 : Below w.heap.size w w2 := (((Below.refl w.heap.size w).grown hg0 (Nat.le_refl _) (fun _ e => by cases e)).alloc hs1 _).grown hg2 (by simp only [World.size_alloc]; omega) (fun k hk => by cases hk; exact Nat.le_refl _)
         have hs2 := hb2.size
         have m1 := True.intro))
    go_loopw [28] (fun i wr => ∃ (k : Nat) (ps : List (Tk × Value)), k ≤ N ∧ i = .int .i64 k ∧ ps.map (·.1) = elemL name al tks ∧ Hid (wr.ownsRow w.heap.size 35 4 (.slice (some ⟨g, 0, none⟩) N c4) N (tkCells ps)) ∧ Hid (∀ p ∈ ps, AtX (fun b => b ≠ g) wr p.2 p.1.as) ∧ Hid (Below w.heap.size w wr)) (fun i _ => N - (intOf i).toNat)
    case atStart =>
      refine ⟨0, PS, Nat.zero_le _, rfl, hPSm.out, hO4, ?_, hb4⟩
      intro p hp
      refine AtX.mono (ok := fun b => b < w.heap.size) ?_ (fun b hb => by omega)
      exact AtX.keep (hPSa.out p hp) hb4.size (fun b hb _ => hb4.block b hb)
    case round =>
      obtain ⟨k, ps, hk, rfl, hpm, hO, hX, hB⟩ := hrel
      have hpl : ps.length = N := by rw [← List.length_map (f := (·.1)), hpm, hLN.out]
      by_cases hlt : k < N
      · have hlt' : k < ps.length := by omega
        have hgl : g < wr.heap.size := ((hO.out.lt g rfl).2)
        have hxk := hX.out ps[k] (List.getElem_mem hlt')
        have hbd : ps[k].1.as.length * 32 ≤ 140737488351232 := by
          refine hbound.out ps[k].1 ?_
          rw [← hpm]
          exact List.mem_map.2 ⟨ps[k], List.getElem_mem hlt', rfl⟩
        have c2k : wr.cell? ⟨g, k * 4 + 2, none⟩ = some ps[k].2 := by
          have := World.ownsRow.cells hO.out (g := g) rfl (k * 4 + 2) ps[k].2 (by rw [tkCells_get ps k hlt' 2 (by omega)]; rfl)
          rwa [Addr.add_lit, Nat.zero_add] at this
        have f2k := owns_frozen hO.out (k * 4 + 2)
        have hset := tkCells_set ps k hlt'
        obtain ⟨pv, hpv⟩ : ∃ z, ps[k].2 = z := ⟨_, rfl⟩
        rw [hpv] at hxk c2k
        obtain ⟨pp, pc, hsh⟩ : ∃ a c, pv = .slice a ps[k].1.as.length c := by obtain ⟨a, c, h, -⟩ := hxk; exact ⟨a, c, h⟩
        subst hsh
        have hcl := clone_any _ _ _ hxk.at hbd
        go_wp2_with (go_at_call 23; refine hcl.mono ?_; rintro e w5 ⟨sv', rfl, hX5, hb5⟩; have c5 := ((bat hb5 g hgl).1 (k * 4 + 2)).trans c2k; have f5 := ((bat hb5 g hgl).2 (k * 4 + 2)).trans f2k; obtain ⟨sp, sc, hsv⟩ : ∃ a c, sv' = .slice a ps[k].1.as.length c := by obtain ⟨a, c, h, -⟩ := hX5; exact ⟨a, c, h⟩
                     subst hsv)
        go_roundw
        case rel =>
          have hO6 := owns_set (j := k * 4 + 2) (.slice sp ps[k].1.as.length sc) (owns_keep2 hO.out (fun b hb => hb5.block b hb)) (by omega)
          rw [← hset] at hO6
          have hother : ∀ b, b ≠ g → (w5.setCell ⟨g, k * 4 + 2, none⟩ (.slice sp ps[k].1.as.length sc)).heap[b]? = w5.heap[b]? := fun b hb => Below.heap_setCell _ _ _ _ hb
          have hsz6 : (w5.setCell ⟨g, k * 4 + 2, none⟩ (.slice sp ps[k].1.as.length sc)).heap.size = w5.heap.size := by simp [World.setCell]
          refine ⟨k + 1, ps.set k (ps[k].1, .slice sp ps[k].1.as.length sc), by omega, by go_num, ?_, hO6, ?_, (belowT hB hb5).setCell (p := ⟨g, k * 4 + 2, none⟩) hg _⟩
          · rw [← hpm, List.map_set]
            apply List.ext_getElem
            · simp
            · intro i h1 h2
              rw [List.getElem_set]
              split
              · rename_i e; subst e; simp
              · rfl
          · intro p hp
            rcases List.mem_or_eq_of_mem_set hp with hp | rfl
            · refine AtX.keep (hX.out p hp) (by rw [hsz6]; exact hb5.size) (fun b hb hbg => (hother b hbg).trans (hb5.block b hb))
            · refine AtX.keep (AtX.mono hX5 (fun b hb => by omega)) (by rw [hsz6]; exact Nat.le_refl _) (fun b hb hbg => hother b hbg)
        case measure => simp [intOf]; omega
      · have hkN : k = N := by omega
        go_wp2
        go_ret
        refine ⟨_, rfl, ?_, hB⟩
        rw [← hpm]
        exact owns_tks hO.out hpl.symm (fun p hp => (hX.out p hp).at)
end Go.Proofs.YtjpdadibeocpfaaDoor
