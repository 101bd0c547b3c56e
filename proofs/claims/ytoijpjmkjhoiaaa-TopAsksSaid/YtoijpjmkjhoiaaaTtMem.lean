/-
  A tree's nodes in memory: rows of eight cells, with the blocks of their affiliations and subscriptions. No condition.
-/
import Derived.Test.YtoijpjmkjhoiaaaTtPure
import Derived.Test.YtoijpjmkjhoiaaaFnWalk
namespace Go.Proofs.Ytoijpjmkjhoiaaa
set_option linter.unusedVariables false
set_option linter.unusedSimpArgs false
open Go.RowKit Go.MapKept
/-- subscriptions in a block of their own -/
def SuH (W : World) (v : Value) (l : List (Tx × Bool × Int)) : Prop :=
  (l = [] ∧ v = .slice none 0 0) ∨ ∃ h cs c, v = .slice (some ⟨h, 0, none⟩) l.length c ∧ 0 < l.length ∧ l.length ≤ c ∧ c ≤ maxLen ∧ W.heap[h]? = some (.cells cs 46 (0, 0)) ∧
    ∀ i (hi : i < l.length), cs[i * 3]? = some (.string ⟨(l[i]'hi).1.toArray⟩) ∧ cs[i * 3 + 1]? = some (.bool (l[i]'hi).2.1) ∧ cs[i * 3 + 2]? = some (.int .i64 (l[i]'hi).2.2)
theorem SuH.su {W : World} {v : Value} {l : List (Tx × Bool × Int)} (h : SuH W v l) : SuS W v l := by
  rcases h with ⟨rfl, rfl⟩ | ⟨b, cs, c, rfl, h0, h1, h2, h3, h4⟩
  · exact ⟨none, 0, rfl, Nat.le_refl _, by decide, fun h => absurd h (by simp)⟩
  · obtain ⟨bc, -, bl⟩ := obj_cells h3
    refine ⟨some ⟨b, 0, none⟩, c, rfl, h1, h2, fun _ => ⟨b, 0, rfl, bl, fun i hi => ?_⟩⟩
    obtain ⟨q0, q1, q2⟩ := h4 i hi
    refine ⟨?_, ?_, ?_⟩
    · rw [bc, Nat.zero_add]; exact q0
    · rw [bc, Nat.zero_add]; exact q1
    · rw [bc, Nat.zero_add]; exact q2
/-- whoever keeps the blocks of other types than a node's -/
def KeepN (W W' : World) : Prop := ∀ (b : Nat) cs t, W.heap[b]? = some (.cells cs t (0, 0)) → t ≠ 30 → W'.heap[b]? = W.heap[b]?
theorem SuH.kept {W W' : World} {v : Value} {l : List (Tx × Bool × Int)} (h : SuH W v l) (hk : KeepN W W') : SuH W' v l := by
  rcases h with h | ⟨b, cs, c, h1, h0, h2, h3, h4, h5⟩
  · exact .inl h
  · exact .inr ⟨b, cs, c, h1, h0, h2, h3, (hk _ _ _ h4 (by decide)).trans h4, h5⟩
theorem keep_below {W W' : World} (h : Below W.heap.size W W') : KeepN W W' := fun b cs t hb _ => h.block b (Array.getElem?_eq_some_iff.1 hb).1
theorem KeepN.trans {A B C : World} (h : KeepN A B) (k : KeepN B C) : KeepN A C := fun b cs t hb ht => by
  have h1 := h b cs t hb ht
  exact (k b cs t (h1.trans hb) ht).trans h1
theorem keep_grown {W W' : World} {base n : Nat} {v : Value} {xs : List Value} (hO : W.ownsRow base 30 8 v n xs) (hg : W.grownBy W' v.ownBlock) : KeepN W W' := fun b cs t hb ht => by
  refine hg.block b (Array.getElem?_eq_some_iff.1 hb).1 (fun e => ?_)
  rcases hO.2 with ⟨rfl, _⟩ | ⟨g, cap, cur, rfl, _, hgb, _⟩
  · cases e
  · obtain rfl : g = b := by simpa [Value.ownBlock] using e.symm
    rw [hb] at hgb
    cases hgb
    exact ht rfl
theorem keep_set {W : World} {g j : Nat} {cs : Array Value} {z : Nat × Nat} {u : Value} (hg : W.heap[g]? = some (.cells cs 30 z)) : KeepN W (W.setCell ⟨g, j, none⟩ u) := fun b cs' t hb ht => by
  refine Below.heap_setCell _ _ _ _ (fun e => ?_)
  have e : b = g := e
  subst e
  rw [hb] at hg
  cases hg
  exact ht rfl
/-- a node's row -/
def rowT (par : Nat → Nat) (i : Nat) (p : Nat × Value) : List Value := (ndC (ndT 0 par i) (.slice (some ⟨p.1, 0, none⟩) 1 1) p.2 (.slice none 0 0)).toList
def rowsT (par : Nat → Nat) : Nat → List (Nat × Value) → List Value
  | _, [] => []
  | i, p :: r => rowT par i p ++ rowsT par (i + 1) r
theorem rowT_len (par : Nat → Nat) (i : Nat) (p : Nat × Value) : (rowT par i p).length = 8 := rfl
theorem rowsT_snoc (par : Nat → Nat) (p : Nat × Value) : ∀ (ps : List (Nat × Value)) (i : Nat), rowsT par i (ps ++ [p]) = rowsT par i ps ++ rowT par (i + ps.length) p
  | [], i => by simp [rowsT]
  | q :: r, i => by
    rw [List.cons_append, rowsT, rowsT_snoc par p r (i + 1), rowsT, List.append_assoc, List.length_cons, show i + 1 + r.length = i + (r.length + 1) by omega]
theorem rowsT_at (par : Nat → Nat) : ∀ (ps : List (Nat × Value)) (i k : Nat) (hk : k < ps.length) (j : Nat), j < 8 → (rowsT par i ps)[k * 8 + j]? = (rowT par (i + k) (ps[k]'hk))[j]?
  | p :: r, i, 0, _, j, hj => by rw [rowsT, List.getElem?_append_left (by rw [rowT_len]; omega)]; simp
  | p :: r, i, k + 1, hk, j, hj => by
    rw [rowsT, List.getElem?_append_right (by rw [rowT_len]; omega), rowT_len, show (k + 1) * 8 + j - 8 = k * 8 + j by omega, rowsT_at par r (i + 1) k (by simpa using hk) j hj]
    rw [show i + 1 + k = i + (k + 1) by omega]
    simp
theorem rowsT_len (par : Nat → Nat) : ∀ (ps : List (Nat × Value)) (i : Nat), (rowsT par i ps).length = ps.length * 8
  | [], _ => rfl
  | p :: r, i => by rw [rowsT, List.length_append, rowT_len, rowsT_len par r (i + 1), List.length_cons]; omega
theorem rowsT_set (par : Nat → Nat) (u : Value) : ∀ (ps : List (Nat × Value)) (i k : Nat) (hk : k < ps.length), (rowsT par i ps).set (k * 8 + 5) u = rowsT par i (ps.set k ((ps[k]'hk).1, u))
  | p :: r, i, 0, _ => by
    rw [rowsT, List.set_append, if_pos (by rw [rowT_len]; omega)]
    simp [rowsT, rowT, ndC]
  | p :: r, i, k + 1, hk => by
    rw [rowsT, List.set_append, if_neg (by rw [rowT_len]; omega), rowT_len, show (k + 1) * 8 + 5 - 8 = k * 8 + 5 by omega, rowsT_set par u r (i + 1) k (by simpa using hk)]
    simp [rowsT]
/-- what a row's blocks hold; k: where the other subscription is -/
def RowT (k : Nat) (W : World) (i : Nat) (p : Nat × Value) : Prop := W.heap[p.1]? = some (.cells #[.string ⟨oT.toArray⟩, .int .u8 5] 25 (0, 0)) ∧ SuH W p.2 (subsT k i)
theorem RowT.kept {k i : Nat} {W W' : World} {p : Nat × Value} (h : RowT k W i p) (hk : KeepN W W') : RowT k W' i p := ⟨(hk _ _ _ h.1 (by decide)).trans h.1, h.2.kept hk⟩
theorem owns_tree {par : Nat → Nat} {k n : Nat} {W : World} {base : Nat} {v : Value} {ps : List (Nat × Value)} (hO : W.ownsRow base 30 8 v n (rowsT par 0 ps)) (hp : ps.length = n) (hn : 0 < n) (hr : ∀ j (h : j < ps.length), RowT k W j (ps[j]'h)) : NdS W v (treeT n k par) := by
  rcases hO.2 with ⟨rfl, h0⟩ | ⟨g, cap, cur, rfl, hb, hg, h1, h2, -⟩
  · omega
  · refine ⟨some ⟨g, 0, none⟩, cap, by rw [tree_len], by rw [tree_len]; exact h1, h2, fun _ => ⟨g, 0, rfl, (Array.getElem?_eq_some_iff.1 hg).1, fun i hi => ?_⟩⟩
    have hip : i < ps.length := by rw [tree_len] at hi; omega
    have hc := World.ownsRow.cells hO (g := g) rfl
    obtain ⟨h3, h4⟩ := hr i hip
    obtain ⟨ac, -, al⟩ := obj_cells h3
    have e : (treeT n k par)[i]'hi = ndT k par i := by
      have := tree_at (n := n) (k := k) (par := par) (i := i) (by omega)
      rw [List.getElem?_eq_getElem hi] at this
      exact Option.some.inj this
    rw [e]
    refine ⟨.slice (some ⟨(ps[i]'hip).1, 0, none⟩) 1 1, (ps[i]'hip).2, .slice none 0 0, fun j u hu => ?_, ?_, h4.su, none, 0, 0, rfl⟩
    · have hj : j < 8 := (Array.getElem?_eq_some_iff.1 hu).1
      have := hc (i * 8 + j) u (by rw [rowsT_at par ps 0 i hip j hj, Nat.zero_add]; simpa [rowT, ndC, ndT] using hu)
      rw [Addr.add_lit] at this
      rw [Nat.add_assoc]
      exact this
    · refine ⟨some ⟨(ps[i]'hip).1, 0, none⟩, 1, rfl, Nat.le_refl _, by decide, fun _ => ⟨_, 0, rfl, al, fun q hq => ?_⟩⟩
      have hq0 : q = 0 := by have : q < 1 := hq; omega
      subst hq0
      exact ⟨ac 0, ac 1⟩
/-- one row more -/
theorem tree_step {par : Nat → Nat} {k n : Nat} {w wr W4 w9 : World} {v v9 : Value} {ps : List (Nat × Value)} {p : Nat × Value} {o : Obj} (hO : wr.ownsRow w.heap.size 30 8 v n (rowsT par 0 ps)) (hps : ps.length = n) (hRo : ∀ j (h : j < ps.length), RowT k wr j (ps[j]'h)) (hB : Below w.heap.size w wr)
    (hB4 : Below wr.heap.size wr W4) (hRow : RowT k W4 n p) (hg : (W4.alloc o).grownBy w9 v.ownBlock) (hO9 : w9.ownsRow w.heap.size 30 8 v9 (n + 1) (rowsT par 0 ps ++ rowT par n p)) :
    (ps ++ [p]).length = n + 1 ∧ w9.ownsRow w.heap.size 30 8 v9 (n + 1) (rowsT par 0 (ps ++ [p])) ∧ (∀ j (h : j < (ps ++ [p]).length), RowT k w9 j ((ps ++ [p])[j]'h)) ∧ Below w.heap.size w w9 := by
  have hB5 : Below wr.heap.size wr (W4.alloc o) := belowA hB4 o
  have hO5 : (W4.alloc o).ownsRow w.heap.size 30 8 v n (rowsT par 0 ps) := by
    refine ⟨hO.1, ?_⟩
    rcases hO.2 with h2 | ⟨g, cap, cur, h1, h2, h3, h4⟩
    · exact .inl h2
    · exact .inr ⟨g, cap, cur, h1, h2, (hB5.block g (Array.getElem?_eq_some_iff.1 h3).1).trans h3, h4⟩
  have hk := keep_grown hO5 hg
  refine ⟨by simp [hps], by rw [rowsT_snoc, hps, Nat.zero_add]; exact hO9, fun j h => ?_, (belowT hB hB5).grown hg (belowT hB hB5).size (fun j e => (hO5.lt j e).1)⟩
  rcases Nat.lt_or_ge j ps.length with hj | hj
  · rw [List.getElem_append_left hj]
    exact (hRo j hj).kept ((keep_below hB5).trans hk)
  · have hj2 : j = ps.length := by rw [List.length_append] at h; simp at h; omega
    subst hj2
    rw [List.getElem_append_right (Nat.le_refl _)]
    simp only [Nat.sub_self, List.getElem_cons_zero, hps]
    exact hRow.kept ((keep_below (below1 W4 o)).trans hk)
end Go.Proofs.Ytoijpjmkjhoiaaa
