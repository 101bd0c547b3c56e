/-
  A chain of collections (plain), who is told of its leaf, and its rows in memory. No condition.
-/
import Derived.Test.YtgodmppmiamhaaaFnWalk
namespace Go.Proofs.Ytgodmppmiamhaaa
set_option linter.unusedVariables false
set_option linter.unusedSimpArgs false
open Go.RowKit Go.MapKept
def chU (k : Nat) : UInt8 := UInt8.ofNat (97 + k)
def ownW : Tx := [111, 64, 100]
def subW : Tx := [115, 64, 100]
/-- the node of place i in a chain of f steps; its last one has a subscription of depth d -/
def ndD (d f i : Nat) : Nd := ⟨[chU i], decide (0 < i), 0, 0, [(ownW, 5)], if i = f then [(subW, false, (d : Int))] else [], if i < f then [chU (i + 1)] else []⟩
def chainD (d f : Nat) : List Nd := (List.range (f + 1)).map (ndD d f)
def toldD (d f : Nat) : Bool := decide (d = 0) || (decide (f ≤ d) || decide (f = 0))
set_option maxRecDepth 100000 in
theorem fan_dep : ∀ d, d < 12 → ∀ f, f < 10 → fanN (chainD d f) [97] = some (if toldD d f then [subW] else []) := by decide +kernel
theorem ch_small : ∀ k, k ≤ 20 → (chU k).toNat = 97 + k := by decide
theorem chain_len (d f : Nat) : (chainD d f).length = f + 1 := by simp [chainD]
theorem chain_at {d f i : Nat} (h : i < (chainD d f).length) : (chainD d f)[i]'h = ndD d f i := by simp [chainD]
theorem chain_small (d f : Nat) : ∀ n ∈ chainD d f, n.small := by
  intro n hn
  obtain ⟨i, -, rfl⟩ := List.mem_map.1 hn
  refine ⟨by simp [ndD], ?_, by simp [ndD], ?_, ?_⟩
  · unfold ndD; simp only; split <;> simp
  · unfold ndD; simp only; split <;> simp
  · intro s hs
    unfold ndD at hs
    simp only at hs
    split at hs
    · rw [List.mem_singleton.1 hs]; show subW.length ≤ _; decide
    · cases hs
/-- a node's row: the blocks of its affiliations, the value of its subscriptions -/
def rowD (d f i : Nat) (p : Nat × Value) : List Value := (ndC (ndD d f i) (.slice (some ⟨p.1, 0, none⟩) 1 1) p.2 (.slice none 0 0)).toList
def rowsD (d f : Nat) : Nat → List (Nat × Value) → List Value
  | _, [] => []
  | i, p :: r => rowD d f i p ++ rowsD d f (i + 1) r
theorem rowsD_snoc (d f : Nat) (p : Nat × Value) : ∀ (ps : List (Nat × Value)) (i : Nat), rowsD d f i (ps ++ [p]) = rowsD d f i ps ++ rowD d f (i + ps.length) p
  | [], i => by simp [rowsD]
  | q :: r, i => by
    rw [List.cons_append, rowsD, rowsD_snoc d f p r (i + 1), rowsD, List.append_assoc, List.length_cons, show i + 1 + r.length = i + (r.length + 1) by omega]
theorem rowD_len (d f i : Nat) (p : Nat × Value) : (rowD d f i p).length = 8 := rfl
theorem rowsD_len (d f : Nat) : ∀ (ps : List (Nat × Value)) (i : Nat), (rowsD d f i ps).length = ps.length * 8
  | [], _ => rfl
  | p :: r, i => by rw [rowsD, List.length_append, rowD_len, rowsD_len d f r (i + 1), List.length_cons]; omega
theorem rowsD_at (d f : Nat) : ∀ (ps : List (Nat × Value)) (i k : Nat) (hk : k < ps.length) (j : Nat), j < 8 → (rowsD d f i ps)[k * 8 + j]? = (rowD d f (i + k) (ps[k]'hk))[j]?
  | p :: r, i, 0, _, j, hj => by rw [rowsD, List.getElem?_append_left (by rw [rowD_len]; omega)]; simp
  | p :: r, i, k + 1, hk, j, hj => by
    rw [rowsD, List.getElem?_append_right (by rw [rowD_len]; omega), rowD_len, show (k + 1) * 8 + j - 8 = k * 8 + j by omega, rowsD_at d f r (i + 1) k (by simpa using hk) j hj]
    rw [show i + 1 + k = i + (k + 1) by omega]
    simp
/-- what a row's blocks hold -/
def RowOk (d f : Nat) (W : World) (i : Nat) (p : Nat × Value) : Prop :=
  W.heap[p.1]? = some (.cells #[.string ⟨ownW.toArray⟩, .int .u8 5] 46 (0, 0)) ∧ ((i ≠ f ∧ p.2 = .slice none 0 0) ∨ (i = f ∧ ∃ h, p.2 = .slice (some ⟨h, 0, none⟩) 1 1 ∧ W.heap[h]? = some (.cells #[.string ⟨subW.toArray⟩, .bool false, .int .i64 (d : Int)] 54 (0, 0))))
theorem RowOk.kept {d f i : Nat} {W W' : World} {p : Nat × Value} (h : RowOk d f W i p) (hk : ∀ (b : Nat) cs t, W.heap[b]? = some (Obj.cells cs t (0, 0)) → t ≠ 52 → W'.heap[b]? = W.heap[b]?) : RowOk d f W' i p := by
  obtain ⟨h1, h2⟩ := h
  refine ⟨(hk _ _ _ h1 (by decide)).trans h1, ?_⟩
  rcases h2 with h2 | ⟨e, b, h3, h4⟩
  · exact .inl h2
  · exact .inr ⟨e, b, h3, (hk _ _ _ h4 (by decide)).trans h4⟩
theorem grown_kept {W W' : World} {base n : Nat} {v : Value} {xs : List Value} (hO : W.ownsRow base 52 8 v n xs) (hg : W.grownBy W' v.ownBlock) : ∀ (b : Nat) cs t, W.heap[b]? = some (Obj.cells cs t (0, 0)) → t ≠ 52 → W'.heap[b]? = W.heap[b]? := fun b cs t hb ht => by
  refine hg.block b (Array.getElem?_eq_some_iff.1 hb).1 (fun e => ?_)
  rcases hO.2 with ⟨rfl, _⟩ | ⟨g, cap, cur, rfl, _, hgb, _⟩
  · cases e
  · obtain rfl : g = b := by simpa [Value.ownBlock] using e.symm
    rw [hb] at hgb
    cases hgb
    exact ht rfl
theorem owns_nds {d f : Nat} {W : World} {base : Nat} {v : Value} {ps : List (Nat × Value)} (hO : W.ownsRow base 52 8 v (f + 1) (rowsD d f 0 ps)) (hp : ps.length = f + 1) (hr : ∀ j (h : j < ps.length), RowOk d f W j (ps[j]'h)) : NdS W v (chainD d f) := by
  rcases hO.2 with ⟨rfl, h0⟩ | ⟨g, cap, cur, rfl, hb, hg, h1, h2, -⟩
  · omega
  · refine ⟨some ⟨g, 0, none⟩, cap, by rw [chain_len], by rw [chain_len]; exact h1, h2, fun _ => ⟨g, 0, rfl, (Array.getElem?_eq_some_iff.1 hg).1, fun i hi => ?_⟩⟩
    have hip : i < ps.length := by rw [chain_len] at hi; omega
    have hc := World.ownsRow.cells hO (g := g) rfl
    obtain ⟨h3, h4⟩ := hr i hip
    obtain ⟨ac, -, al⟩ := obj_cells h3
    rw [chain_at hi]
    refine ⟨.slice (some ⟨(ps[i]'hip).1, 0, none⟩) 1 1, (ps[i]'hip).2, .slice none 0 0, fun j u hu => ?_, ?_, ?_, none, 0, 0, rfl⟩
    · have hj : j < 8 := (Array.getElem?_eq_some_iff.1 hu).1
      have := hc (i * 8 + j) u (by rw [rowsD_at d f ps 0 i hip j hj, Nat.zero_add]; simpa [rowD] using hu)
      rw [Addr.add_lit] at this
      rw [Nat.add_assoc]
      exact this
    · refine ⟨some ⟨(ps[i]'hip).1, 0, none⟩, 1, rfl, Nat.le_refl _, by decide, fun _ => ⟨_, 0, rfl, al, fun q hq => ?_⟩⟩
      have hq0 : q = 0 := by have : q < 1 := hq; omega
      subst hq0
      exact ⟨ac 0, ac 1⟩
    · rcases h4 with ⟨h5, h6⟩ | ⟨h5, b, h6, h7⟩
      · rw [h6]
        have e : (ndD d f i).sb = [] := by unfold ndD; simp [h5]
        rw [e]
        exact ⟨none, 0, rfl, Nat.le_refl _, by decide, fun h => absurd h (by simp)⟩
      · rw [h6]
        have e : (ndD d f i).sb = [(subW, false, (d : Int))] := by unfold ndD; simp [h5]
        rw [e]
        obtain ⟨bc, -, bl⟩ := obj_cells h7
        refine ⟨some ⟨b, 0, none⟩, 1, rfl, Nat.le_refl _, by decide, fun _ => ⟨_, 0, rfl, bl, fun q hq => ?_⟩⟩
        have hq0 : q = 0 := by have : q < 1 := hq; omega
        subst hq0
        exact ⟨bc 0, bc 1, bc 2⟩
end Go.Proofs.Ytgodmppmiamhaaa
