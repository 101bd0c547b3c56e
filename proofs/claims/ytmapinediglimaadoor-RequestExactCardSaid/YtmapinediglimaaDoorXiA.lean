/-
  One attribute behind those of a token, laid down into another row of tokens: what holds at each moment of a region that draws its order. Conditions: at most 2^42 attributes; the row that is written is another one than the one that is read.
-/
import Derived.Test.YtmapinediglimaaDoorWrRefElem
import Derived.Test.YtmapinediglimaaDoorInv
import Derived.Test.YtmapinediglimaaDoorWrWhole
namespace Go.Proofs.YtmapinediglimaaDoor
set_option linter.unusedVariables false
set_option linter.unusedSimpArgs false
open Go.RowKit Go.MapKept
def rdXi : List Nat := [0, 2, 3, 4, 5, 7, 10, 11]
structure XI (b7 : Nat) (W0 : World) (c : Nat → Value) (al : Ats) (x y : List UInt8) (L : Nat → Bool) (vs : Nat → Value) (W : World) : Prop where
  rd : ∀ j, L j = true → j ∈ rdXi → vs j = c j
  bl : L 12 = false → Below W0.heap.size W0 W
  o1 : L 1 = true → L 6 = false → W.ownsRow W0.heap.size 35 2 (vs 1) 0 []
  o6 : L 6 = true → L 9 = false → W.ownsRow W0.heap.size 35 2 (vs 6) al.length (atCells al)
  o8 : L 8 = true → L 9 = false → ∃ g, vs 8 = .slice (some ⟨g, 0, none⟩) 1 1 ∧ W0.heap.size ≤ g ∧ W.heap[g]? = some (.cells #[.string ⟨x.toArray⟩, .string ⟨y.toArray⟩] 35 (0, 0)) ∧ (L 1 = true → L 6 = false → (vs 1).ownBlock ≠ some g) ∧ (L 6 = true → (vs 6).ownBlock ≠ some g)
  o9 : L 9 = true → L 12 = false → W.ownsRow W0.heap.size 35 2 (vs 9) (al.length + 1) (atCells (al ++ [(x, y)]))
  o12 : L 12 = true → ∃ W', Below W0.heap.size W0 W' ∧ W'.ownsRow W0.heap.size 35 2 (vs 9) (al.length + 1) (atCells (al ++ [(x, y)])) ∧ W = W'.setCell ⟨b7, 6, none⟩ (vs 9)
section
variable {b7 : Nat} {W0 W : World} {c : Nat → Value} {al : Ats} {x y : List UInt8} {L : Nat → Bool} {vs : Nat → Value}
theorem XI.start (h : Below W0.heap.size W0 W) : XI b7 W0 c al x y (fun _ => false) vs W :=
  ⟨fun j h => by simp at h, fun _ => h, by simp, by simp, by simp, by simp, by simp⟩
/-- an operation that reads alone -/
theorem XI.read (h : XI b7 W0 c al x y L vs W) {i : Nat} (hi : i ∈ rdXi) {v : Value} (hv : v = c i) : XI b7 W0 c al x y (fun j => if j = i then true else L j) (fun j => if j = i then v else vs j) W := by
  have hne : ∀ j, j ∉ rdXi → j ≠ i := fun j hj e => hj (e ▸ hi)
  have n1 := hne 1 (by decide)
  have n6 := hne 6 (by decide)
  have n8 := hne 8 (by decide)
  have n9 := hne 9 (by decide)
  have n12 := hne 12 (by decide)
  refine ⟨fun j hj hm => ?_, ?_, ?_, ?_, ?_, ?_, ?_⟩
  · by_cases e : j = i
    · subst e; simpa using hv
    · simp only [e, if_false] at hj ⊢
      exact h.rd j hj hm
  · simp only [n12, if_false]; exact h.bl
  · simp only [n1, n6, if_false]; exact h.o1
  · simp only [n6, n9, if_false]; exact h.o6
  · simp only [n1, n6, n8, n9, if_false]; exact h.o8
  · simp only [n9, n12, if_false]; exact h.o9
  · simp only [n9, n12, if_false]; exact h.o12
theorem rd_other {v : Value} {i : Nat} (h : XI b7 W0 c al x y L vs W) (hi : i ∉ rdXi) : ∀ j, (if j = i then true else L j) = true → j ∈ rdXi → (if j = i then v else vs j) = c j := fun j hj hm => by
  have e : j ≠ i := fun e => hi (e ▸ hm)
  rw [if_neg e] at hj ⊢
  exact h.rd j hj hm
theorem XI.s1 (h : XI b7 W0 c al x y L vs W) (h6 : L 6 = false) (h9 : L 9 = false) (h12 : L 12 = false) :
    XI b7 W0 c al x y (fun j => if j = 1 then true else L j) (fun j => if j = 1 then .slice (some ⟨W.heap.size, 0, none⟩) 0 0 else vs j) (W.alloc (.cells #[] 35)) := by
  have hb := h.bl h12
  refine ⟨rd_other h (by decide), fun _ => hb.alloc hb.size _, fun _ _ => ⟨rfl, .inr ⟨W.heap.size, 0, #[], rfl, hb.size, bare_nil _ _, Nat.le_refl _, by simp, rfl, rfl⟩⟩, ?_, ?_, ?_, ?_⟩
  · intro h'; exact absurd h' (by simp [h6])
  · intro h8 _
    obtain ⟨g, e, hg, hc, -, -⟩ := h.o8 h8 h9
    have hlt := (Array.getElem?_eq_some_iff.1 hc).1
    refine ⟨g, e, hg, by rw [(heap_alloc _ _).2 g hlt]; exact hc, fun _ _ => ?_, fun h' => absurd h' (by simp [h6])⟩
    show some W.heap.size ≠ some g
    intro e; injection e; omega
  · intro h'; exact absurd h' (by simp [h9])
  · intro h'; exact absurd h' (by simp [h12])
theorem XI.s8 (h : XI b7 W0 c al x y L vs W) (h9 : L 9 = false) (h12 : L 12 = false) :
    XI b7 W0 c al x y (fun j => if j = 8 then true else L j) (fun j => if j = 8 then .slice (some ⟨W.heap.size, 0, none⟩) 1 1 else vs j) (W.alloc (.cells #[.string ⟨x.toArray⟩, .string ⟨y.toArray⟩] 35)) := by
  have hb := h.bl h12
  refine ⟨rd_other h (by decide), fun _ => hb.alloc hb.size _, fun h1 h6 => (h.o1 h1 h6).alloc _, fun h6 _ => (h.o6 h6 h9).alloc _, fun _ _ => ⟨W.heap.size, rfl, hb.size, bare_nil _ _, fun h1 h6 e => ?_, fun h6 e => ?_⟩, ?_, ?_⟩
  · exact absurd ((h.o1 h1 h6).lt _ e).2 (Nat.lt_irrefl _)
  · exact absurd ((h.o6 h6 h9).lt _ e).2 (Nat.lt_irrefl _)
  · intro h'; exact absurd h' (by simp [h9])
  · intro h'; exact absurd h' (by simp [h12])
/-- a slice's attributes, appended to a row of the call's own -/
theorem append_xi {base : Nat} {v : Value} {n : Nat} {xs : List Value} (hO : W.ownsRow base 35 2 v n xs) (ad : Addr) (m cp : Nat) (bl : Ats) (hm : bl.length = m) (hnews : ∀ j u, (atCells bl)[j]? = some u → W.cell? (ad.add j) = some u) (hbase : base ≤ W.heap.size) (hl : (n + m) * 32 ≤ 140737488351232) :
    ∃ v' w', (Builtin.append_ #[36, 36] 36 #[v, .slice (some ad) m cp]).run Tryd.prog W = .ok v' w' ∧ w'.ownsRow base 35 2 v' (n + m) (xs ++ atCells bl) ∧ W.grownBy w' v.ownBlock ∧ (v'.ownBlock = v.ownBlock ∨ v'.ownBlock = some W.heap.size) := by
  obtain ⟨i0, hi, hz0, hz1, hz2⟩ := info_parts infoA
  obtain ⟨v', w', hrun, hown, hgr, _, h5⟩ := run_append_own_at (P := Tryd.prog) W base 36 36 35 i0 (.agg #[.string ⟨#[]⟩, .string ⟨#[]⟩]) 2 32 Tryd.underlying36 hi hz0 hz1 hz2 rfl (by decide) _ _ _ hO ad m cp (atCells bl) (by rw [atCells_len, hm]) hnews (atCells_one bl) (by unfold maxLen; omega) (by omega) hbase
  exact ⟨v', w', hrun, hown, hgr, h5⟩
theorem ats_news {w : World} {sv : Value} {al : Ats} (h : AtS w sv al) (h0 : 0 < al.length) : ∃ ad cp, sv = .slice (some ad) al.length cp ∧ ad.block < w.heap.size ∧ ∀ W', Below w.heap.size w W' → ∀ j u, (atCells al)[j]? = some u → W'.cell? (ad.add j) = some u := by
  obtain ⟨ptr, cap, rfl, hc1, hc2, hat⟩ := h
  obtain ⟨b, o, rfl, hb, hcell⟩ := hat h0
  refine ⟨_, cap, rfl, hb, fun W' hB j u hj => ?_⟩
  have hc : w.cell? ((⟨b, o, none⟩ : Addr).add j) = some u := by
    rw [Addr.add_lit]
    rcases atCells_of al j u hj with ⟨i, hi', rfl, rfl⟩ | ⟨i, hi', rfl, rfl⟩
    · exact (hcell i hi').1
    · rw [← Nat.add_assoc]; exact (hcell i hi').2
  rw [Addr.add_lit] at hc ⊢
  rw [World.cell?_of_block (w := w) (hB.block b hb)]
  exact hc
theorem XI.s6 {ad : Addr} {cp : Nat} (h : XI b7 W0 c al x y L vs W) (h1 : L 1 = true) (h6 : L 6 = false) (h9 : L 9 = false) (h12 : L 12 = false) (hn : ∀ W', Below W0.heap.size W0 W' → ∀ j u, (atCells al)[j]? = some u → W'.cell? (ad.add j) = some u) (hl : (al.length + 1) * 32 ≤ 140737488351232) :
    ∃ v' w', (Builtin.append_ #[36, 36] 36 #[vs 1, .slice (some ad) al.length cp]).run Tryd.prog W = .ok v' w' ∧ XI b7 W0 c al x y (fun j => if j = 6 then true else L j) (fun j => if j = 6 then v' else vs j) w' := by
  have hb := h.bl h12
  have hO := h.o1 h1 h6
  obtain ⟨v', w', hr, hown, hg, hw⟩ := append_xi hO ad al.length cp al rfl (hn W hb) hb.size (by omega)
  rw [Nat.zero_add, List.nil_append] at hown
  refine ⟨v', w', hr, rd_other h (by decide), fun _ => hb.grown hg hb.size (fun k hk => (hO.lt k hk).1), fun _ h' => ?_, fun _ _ => hown, fun h8 _ => ?_, fun h' => ?_, fun h' => ?_⟩
  · simp at h'
  · obtain ⟨g, e, hgb, hc, hd1, -⟩ := h.o8 h8 h9
    have hlt := (Array.getElem?_eq_some_iff.1 hc).1
    have hne := hd1 h1 h6
    refine ⟨g, e, hgb, ?_, fun _ h' => by simp at h', fun _ e' => ?_⟩
    · rw [hg.block g hlt (fun e' => hne e'.symm)]; exact hc
    · have e'' : v'.ownBlock = some g := e'
      rcases hw with hw | hw
      · exact hne (hw ▸ e'')
      · rw [hw] at e''; injection e''; omega
  · exact absurd h' (by simp [h9])
  · exact absurd h' (by simp [h12])
theorem XI.s9 (h : XI b7 W0 c al x y L vs W) (h1 : L 1 = true) (h6 : L 6 = true) (h8 : L 8 = true) (h9 : L 9 = false) (h12 : L 12 = false) (hl : (al.length + 1) * 32 ≤ 140737488351232) :
    ∃ v' w', (Builtin.append_ #[36, 36] 36 #[vs 6, vs 8]).run Tryd.prog W = .ok v' w' ∧ XI b7 W0 c al x y (fun j => if j = 9 then true else L j) (fun j => if j = 9 then v' else vs j) w' := by
  have hb := h.bl h12
  have hO := h.o6 h6 h9
  obtain ⟨g, e, hgb, hc, -, -⟩ := h.o8 h8 h9
  rw [e]
  obtain ⟨v', w', hr, hown, hg, hw⟩ := append_xi hO ⟨g, 0, none⟩ 1 1 [(x, y)] rfl (fun j u hj => by
    have hj2 := (List.getElem?_eq_some_iff.1 hj).1
    rw [atCells_len] at hj2
    rw [Addr.add_lit, (obj_cells hc).1]
    match j, hj2 with
    | 0, _ => simpa [atCells] using hj
    | 1, _ => simpa [atCells] using hj) hb.size (by omega)
  refine ⟨v', w', hr, rd_other h (by decide), fun _ => hb.grown hg hb.size (fun k hk => (hO.lt k hk).1), fun _ h' => ?_, fun _ h' => ?_, fun _ h' => ?_, fun _ _ => ?_, fun h' => ?_⟩
  · exact absurd h' (by simp [h6])
  · simp at h'
  · simp at h'
  · have e2 : atCells (al ++ [(x, y)]) = atCells al ++ atCells [(x, y)] := by simp [atCells]
    rw [e2]; exact hown
  · exact absurd h' (by simp [h12])
theorem XI.s12 (h : XI b7 W0 c al x y L vs W) (h1 : L 1 = true) (h6 : L 6 = true) (h8 : L 8 = true) (h9 : L 9 = true) (h12 : L 12 = false) (u : Value) :
    XI b7 W0 c al x y (fun j => if j = 12 then true else L j) (fun j => if j = 12 then u else vs j) (W.setCell ⟨b7, 6, none⟩ (vs 9)) :=
  ⟨rd_other h (by decide), fun h' => by simp at h', fun _ h' => absurd h' (by simp [h6]), fun _ h' => absurd h' (by simp [h9]), fun _ h' => absurd h' (by simp [h9]), fun _ h' => by simp at h', fun _ => ⟨W, h.bl h12, h.o9 h9 h12, rfl⟩⟩
end
end Go.Proofs.YtmapinediglimaaDoor
/-
  A copy of some tokens whose second one gets other attributes. Condition: there are two at least.
-/
namespace Go.Proofs.YtmapinediglimaaDoor
set_option linter.unusedVariables false
set_option linter.unusedSimpArgs false
open Go.RowKit Go.MapKept
/-- a copy of tokens, in a row of the call's own -/
def CpT (w0 : World) (W : World) (v : Value) (l : List Tk) : Prop :=
  ∃ (ps : List (Tk × Value)) (g c : Nat), v = .slice (some ⟨g, 0, none⟩) l.length c ∧ ps.map (·.1) = l ∧ (∀ p ∈ ps, AtS w0 p.2 p.1.as) ∧ W.ownsRow w0.heap.size 39 4 v l.length (tkCells ps) ∧ Below w0.heap.size w0 W
theorem tok_set (ps : List (Tk × Value)) (k : Nat) (tk : Tk) (sv : Value) : (ps.set k (tk, sv)).map (·.1) = (ps.map (·.1)).set k tk := by simp [List.map_set]
/-- the attributes' list stands in no cell -/
theorem tk_six (ps : List (Tk × Value)) {k : Int} {nm : List UInt8} {az al : Ats} {tx : List UInt8} (h : ps[1]?.map (·.1) = some ⟨k, nm, az, tx⟩) (sv : Value) : (tkCells ps).set 6 sv = tkCells (ps.set 1 (⟨k, nm, al, tx⟩, sv)) := by
  match ps, h with
  | p :: q :: r, h =>
    have h' : q.1 = ⟨k, nm, az, tx⟩ := by simpa using h
    simp [tkCells_cons, tkRow, h']
/-- the second token's attributes are set -/
theorem CpT.put {w0 W W' : World} {g c n : Nat} {l : List Tk} {k : Int} {nm : List UInt8} {az al : Ats} {tx : List UInt8} {sv : Value} (h : CpT w0 W (.slice (some ⟨g, 0, none⟩) n c) l) (h1 : l[1]? = some ⟨k, nm, az, tx⟩)
    (hb : Below W.heap.size W W') (ha : AtX (fun b => W.heap.size ≤ b ∨ b < w0.heap.size) W' sv al) : TkS (W'.setCell ⟨g, 6, none⟩ sv) (.slice (some ⟨g, 0, none⟩) n c) (l.set 1 ⟨k, nm, al, tx⟩) ∧ Below w0.heap.size w0 (W'.setCell ⟨g, 6, none⟩ sv) := by
  obtain ⟨ps, g', c', e, hm, hp, hO, hB⟩ := h
  obtain ⟨e1, rfl, rfl⟩ := Value.slice.inj e
  have e1 := Option.some.inj e1
  injection e1 with e1 _ _
  subst e1
  have hl : ps.length = l.length := by rw [← hm, List.length_map]
  have hl1 : 1 < l.length := (List.getElem?_eq_some_iff.1 h1).1
  have hg := hO.lt g rfl
  have hB' : Below w0.heap.size w0 W' := belowT hB hb
  have hO' : W'.ownsRow w0.heap.size 39 4 (.slice (some ⟨g, 0, none⟩) l.length c) l.length (tkCells ps) := owns_keep hO (fun q _ hq => hb.block q hq)
  have hBS : Below w0.heap.size w0 (W'.setCell ⟨g, 6, none⟩ sv) := hB'.setCell hg.1 _
  have hs := owns_set (base := w0.heap.size) (j := 6) sv hO' (by omega)
  have hk1 : (ps[1]'(by omega)).1 = ⟨k, nm, az, tx⟩ := by
    have : (ps.map (·.1))[1]? = some ⟨k, nm, az, tx⟩ := by rw [hm]; exact h1
    rw [List.getElem?_map, List.getElem?_eq_getElem (show 1 < ps.length by omega)] at this
    exact Option.some.inj this
  have hc : (tkCells ps).set 6 sv = tkCells (ps.set 1 (⟨k, nm, al, tx⟩, sv)) := tk_six ps (by rw [List.getElem?_eq_getElem (show 1 < ps.length by omega), Option.map_some, hk1]) sv
  rw [hc] at hs
  refine ⟨?_, hBS⟩
  have hfin := owns_tks (ps := ps.set 1 (⟨k, nm, al, tx⟩, sv)) (w := W'.setCell ⟨g, 6, none⟩ sv) hs (by rw [List.length_set, hl]) (fun p hpm => by
    rcases List.mem_or_eq_of_mem_set hpm with hpm | rfl
    · exact (hp p hpm).below hBS
    · obtain ⟨ptr, cap, x1, x2, x3, x4⟩ := ha
      refine ⟨ptr, cap, x1, x2, x3, fun h0 => ?_⟩
      obtain ⟨b, o, x5, x6, x7, x8⟩ := x4 h0
      have hne : b ≠ g := by
        rcases x7 with x7 | x7
        · have := hg.2; omega
        · have := hg.1; omega
      have hcell : ∀ q, (W'.setCell ⟨g, 6, none⟩ sv).cell? ⟨b, q, none⟩ = W'.cell? ⟨b, q, none⟩ := fun q => World.cell?_of_block (w := W') (Below.heap_setCell _ _ _ _ hne)
      exact ⟨b, o, x5, by simpa [World.setCell] using x6, fun i hi => ⟨(hcell _).trans (x8 i hi).1, (hcell _).trans (x8 i hi).2⟩⟩)
  rw [tok_set, hm] at hfin
  exact hfin
/-- tokens, but the first -/
theorem TkS.tail {w : World} {b o c n : Nat} {l : List Tk} (h : TkS w (.slice (some ⟨b, o, none⟩) n c) l) (h1 : 1 ≤ l.length) : TkS w (.slice (some ⟨b, o + 4, none⟩) (n - 1) (c - 1)) (l.drop 1) := by
  obtain ⟨ptr, cap, e, h2, h3, h4⟩ := h
  obtain ⟨rfl, rfl, rfl⟩ := Value.slice.inj e
  obtain ⟨b', o', e', hb, hc⟩ := h4 (by omega)
  have e' := Option.some.inj e'
  injection e' with e1 e2 _
  subst e1 e2
  refine ⟨_, _, by rw [List.length_drop], by rw [List.length_drop]; omega, by omega, fun _ => ⟨b, o + 4, rfl, hb, fun i hi => ?_⟩⟩
  rw [List.length_drop] at hi
  obtain ⟨sv, x1, x2, x3, x4, x5⟩ := hc (i + 1) (by omega)
  have ei : (l.drop 1)[i]'(by rw [List.length_drop]; exact hi) = l[i + 1]'(by omega) := by rw [List.getElem_drop]; congr 1; omega
  rw [ei]
  have e4 : o + (i + 1) * 4 = o + 4 + i * 4 := by omega
  rw [e4] at x1 x2 x3 x4
  exact ⟨sv, x1, x2, x3, x4, x5⟩
/-- attributes, but the last -/
theorem AtS.init {w : World} {p : Option Addr} {n c : Nat} {al : Ats} (h : AtS w (.slice p n c) al) : AtS w (.slice p (n - 1) c) (al.take (al.length - 1)) := by
  obtain ⟨ptr, cap, e, h1, h2, h3⟩ := h
  obtain ⟨rfl, rfl, rfl⟩ := Value.slice.inj e
  have hl : (al.take (al.length - 1)).length = al.length - 1 := by rw [List.length_take]; omega
  refine ⟨p, c, by rw [hl], by rw [hl]; omega, h2, fun h0 => ?_⟩
  rw [hl] at h0
  obtain ⟨b, o, e, hb, hc⟩ := h3 (by omega)
  refine ⟨b, o, e, hb, fun i hi => ?_⟩
  rw [hl] at hi
  rw [List.getElem_take]
  exact hc i (by omega)
theorem AtX.of {w W : World} {sv : Value} {al : Ats} (h : AtS w sv al) (hb : Below w.heap.size w W) {ok : Nat → Prop} (hok : ∀ b, b < w.heap.size → ok b) : AtX ok W sv al := by
  obtain ⟨ptr, cap, h1, h2, h3, h4⟩ := h
  refine ⟨ptr, cap, h1, h2, h3, fun h0 => ?_⟩
  obtain ⟨b, o, h5, h6, h7⟩ := h4 h0
  have hcell : ∀ q, W.cell? ⟨b, q, none⟩ = w.cell? ⟨b, q, none⟩ := fun q => World.cell?_of_block (w := w) (hb.block b h6)
  exact ⟨b, o, h5, Nat.lt_of_lt_of_le h6 hb.size, hok b h6, fun i hi => ⟨(hcell _).trans (h7 i hi).1, (hcell _).trans (h7 i hi).2⟩⟩
/-- what the second token's cells say -/
theorem TkS.second {w : World} {v : Value} {l : List Tk} {k : Int} {nm : List UInt8} {az : Ats} {tx : List UInt8} (h : TkS w v l) (h1 : l[1]? = some ⟨k, nm, az, tx⟩) :
    ∃ b o c sv, v = .slice (some ⟨b, o, none⟩) l.length c ∧ l.length ≤ c ∧ b < w.heap.size ∧ w.cell? ⟨b, o + 6, none⟩ = some sv ∧ AtS w sv az := by
  have hl1 : 1 < l.length := (List.getElem?_eq_some_iff.1 h1).1
  obtain ⟨ptr, cap, rfl, h2, h3, h4⟩ := h
  obtain ⟨b, o, rfl, hb, hc⟩ := h4 (by omega)
  obtain ⟨sv, -, -, x3, -, x5⟩ := hc 1 hl1
  have e := (List.getElem?_eq_some_iff.1 h1).2
  rw [e] at x5
  exact ⟨b, o, cap, sv, rfl, h2, hb, by rw [show o + 6 = o + 1 * 4 + 2 by omega]; exact x3, x5⟩
theorem XI.last {b7 : Nat} {W0 W : World} {c : Nat → Value} {al : Ats} {x y : List UInt8} {L : Nat → Bool} {vs : Nat → Value} (h : XI b7 W0 c al x y L vs W) (h12 : L 12 = true) :
    ∃ W' sv, Below W0.heap.size W0 W' ∧ AtX (fun b => W0.heap.size ≤ b) W' sv (al ++ [(x, y)]) ∧ W = W'.setCell ⟨b7, 6, none⟩ sv := by
  obtain ⟨W', hb, hO, e⟩ := h.o12 h12
  exact ⟨W', vs 9, hb, owns_at hO (by simp), e⟩
end Go.Proofs.YtmapinediglimaaDoor
