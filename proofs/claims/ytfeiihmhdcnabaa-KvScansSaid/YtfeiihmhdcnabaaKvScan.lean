/-
  Scan and Size, by the program: loops over the iterator. Condition: the map's pairs are right (okE).
-/
import Derived.Test.YtfeiihmhdcnabaaKvIter
namespace Go.Proofs.Ytfeiihmhdcnabaa
set_option linter.unusedVariables false
set_option linter.unusedSimpArgs false
open Go.RowKit Go.MapKept Go.Shelf
attribute [local go_sem] Oper.semAt_some
/-- the loop variable's box -/
def PairAt (W : World) (B : Nat) (x : PO) : Prop := W.heap[B]? = some (.cells #[.string ⟨x.1.1.toArray⟩, .string ⟨x.1.2.toArray⟩] 39)
theorem PairAt.kept {W W' : World} {B : Nat} {x : PO} {row : Option Nat} (h : PairAt W B x) (hg : W.grownBy W' row) (hr : ∀ r, row = some r → ∃ o : Obj, W.heap[r]? = some o ∧ o.isCells = false) : PairAt W' B x :=
  (hg.block B (Array.getElem?_eq_some_iff.1 (show W.heap[B]? = _ from h)).1 (fun e => by
    obtain ⟨o, ho, hc⟩ := hr B e.symm
    rw [show W.heap[B]? = _ from h] at ho; cases ho; cases hc)).trans h
/-- three boxes made -/
theorem three (w : World) (o0 o1 o2 : Obj) : (((w.alloc o0).alloc o1).alloc o2).heap[w.heap.size]? = some o0 ∧ (((w.alloc o0).alloc o1).alloc o2).heap[w.heap.size + 1]? = some o1 ∧ (((w.alloc o0).alloc o1).alloc o2).heap[w.heap.size + 1 + 1]? = some o2 := by
  refine ⟨obj_alloc (obj_alloc (al_newK _ _)), obj_alloc ?_, ?_⟩
  · have := al_newK (w.alloc o0) o1
    rwa [World.size_alloc] at this
  · have := al_newK ((w.alloc o0).alloc o1) o2
    rwa [World.size_alloc, World.size_alloc] at this
theorem owns_down {w : World} {b1 b2 : Nat} {e : TypeId} {size : Nat} {v : Value} {n : Nat} {xs : List Value} (h : w.ownsRow b1 e size v n xs) (hb : b2 ≤ b1) : w.ownsRow b2 e size v n xs := by
  refine ⟨h.1, ?_⟩
  rcases h.2 with h2 | ⟨g, cap, cur, h1, h2, h3⟩
  · exact .inl h2
  · exact .inr ⟨g, cap, cur, h1, Nat.le_trans hb h2, h3⟩
/-- what a round that appends to the box's slice keeps -/
theorem keepK_append {W w2 : World} {n₀ B base size k : Nat} {t e : TypeId} {v : Value} {xs : List Value} {tmp : Obj} (hb : Boxed W B t v) (hO : W.ownsRow base e size v k xs) (hg : (W.alloc tmp).grownBy w2 v.ownBlock) (hn : n₀ ≤ base) (hb2 : Boxed w2 B t v)
    (he1 : e ≠ 9 := by decide) (he2 : e ≠ 22 := by decide) (ht1 : t ≠ 9 := by decide) (ht2 : t ≠ 22 := by decide) (hB : n₀ ≤ B := by omega) : ∀ u, KeepK n₀ W (w2.setCell ⟨B, 0, none⟩ u) := by
  intro u
  refine ((KeepK.grown (row := none) (World.grownBy_alloc W tmp none) (fun r e => by cases e)).trans (KeepK.grown hg fun r er => ?_)).trans (KeepK.grown (grownBy_setCell' w2 B u) fun r er => ?_)
  · rcases (hO.alloc tmp).2 with ⟨rfl, _⟩ | ⟨g, cap, cur, rfl, h1, h2, -⟩
    · cases er
    · obtain rfl : g = r := by simpa [Value.ownBlock] using er
      exact ⟨by omega, not_isS h2 he1 he2⟩
  · cases er
    exact ⟨hB, not_isS hb2 ht1 ht2⟩
/-- between two rounds -/
def ScanI (w : World) (pre : List PO) (W : World) : Prop :=
  (∃ sv, Boxed W w.heap.size 36 sv ∧ W.ownsRow (w.heap.size + 3) 39 2 sv pre.length (atCells (pre.map (·.1))) ∧ True) ∧ Below w.heap.size w W ∧ w.heap.size + 3 ≤ W.heap.size
theorem scanI_own (w : World) (B : Nat) (hB : w.heap.size ≤ B) : OwnFrom B (ScanI w) := by
  rintro s X Y row ⟨h1, h2, h3⟩ hg hr
  exact ⟨holdsRow_own (w.heap.size + 3) w.heap.size 36 39 2 (fun pre : List PO => pre.length) (fun pre => atCells (pre.map (·.1))) (fun _ _ => True) s X Y row h1 hg (fun r e => (hr r e).2), h2.grown hg h2.size (fun k e => by have := (hr k e).1; omega), Nat.le_trans h3 hg.size⟩
set_option maxRecDepth 100000 in
set_option maxHeartbeats 4000000 in
theorem scan_any (g b : Nat) (E : Ats) (p : Txt) (w : World) (h : KvS w g b E) :
    Calls Try.prog 18 #[.pointer (some ⟨g, 0, none⟩), .string ⟨p.toArray⟩] w fun e w' => ∃ sv, e = .returned sv ∧ AtS w' sv (scanE E p) ∧ Below w.heap.size w w' := by
  obtain ⟨i0, hi, hz0, hz1, hz2⟩ := info_parts infoP
  obtain ⟨f0, f1, f2⟩ := three w (.cells #[.slice none 0 0] 36) (.cells #[.pointer (some ⟨g, 0, none⟩)] 22) (.cells #[.string ⟨p.toArray⟩] 9)
  have hb3 : Below w.heap.size w (((w.alloc (.cells #[.slice none 0 0] 36)).alloc (.cells #[.pointer (some ⟨g, 0, none⟩)] 22)).alloc (.cells #[.string ⟨p.toArray⟩] 9)) := belowA (belowA (below1 w _) _) _
  have hG := sorted_stops g b E p w _ h hb3 (w.heap.size + 1) (w.heap.size + 1 + 1) (by omega) (by omega) f1 f2
  replace h := Lib.hid h
  refine (callsIn_wide (n := 6)).1 ?_
  refine callsIn_of_wp_marks Try.func18 rfl trivial ?_ rfl
  simp only [Try.ntmps18, List.size_toArray, List.length_cons, List.length_nil, Nat.reduceAdd, Nat.reduceSub, Array.replicate_succ, Array.replicate_zero, List.push_toArray, List.append_toArray, List.nil_append, List.cons_append]
  gi_wp2_with (refine ⟨trivial, ?_⟩; gi_at_call 35; refine (callsIn_wide.2 (sorted_any g p _)).mono ?_; rintro e w1 ⟨rfl, rfl⟩)
  refine wpIn_rangeFunc_ownH rfl (by decide) (gf := 41) (lb := #[.pointer (some ⟨w.heap.size + 1, 0, none⟩), .pointer (some ⟨w.heap.size + 1 + 1, 0, none⟩)]) rfl trivial (enters_of Try.func41 (by kernel_rfl) rfl) hG (fun h k => h.trans k) (keepK_b (by simp only [World.size_alloc]; omega)) (Below.refl _ _) (fun _ => rfl)
    (ScanI w) (fun _ _ _ => False) (scanI_own w _ (by simp only [World.size_alloc]; omega)) (fun _ _ _ _ _ h _ _ => h) ⟨⟨_, f0, World.ownsRow_nil _ _ _ _, trivial⟩, hb3, by simp only [World.size_alloc]; omega⟩
    (fun x a' W => ∃ Bx, PairAt W Bx x ∧ w.heap.size + 3 ≤ Bx ∧ a' = { tmps := #[.pointer (some ⟨g, 0, none⟩), .string ⟨p.toArray⟩, undef, undef, .slice none 0 0, .pointer (some ⟨w.heap.size, 0, none⟩), .pointer (some ⟨Bx, 0, none⟩), .pointer (some ⟨g, 0, none⟩), .string ⟨p.toArray⟩, .func (.func 41) #[] #[.pointer (some ⟨w.heap.size + 1, 0, none⟩), .pointer (some ⟨w.heap.size + 1 + 1, 0, none⟩)], .agg #[.string ⟨x.1.1.toArray⟩, .string ⟨x.1.2.toArray⟩], undef, undef, undef, undef, undef], defers := [] })
    (fun x a' _ X Y row h hg hr => by obtain ⟨Bx, h1, h2⟩ := h; exact ⟨Bx, h1.kept hg (fun r e => (hr r e).2), h2⟩) ?assign ?body ?done ?stop
  case assign =>
    rintro l pre x W K hI hK
    have hsz := hI.2.1.size
    have hsz3 := hI.2.2
    obtain ⟨sv, hbx, -⟩ := hI.1
    have hlt := hbx.lt
    dsimp only [encP]
    gi_wp2
    refine hK _ _ ((KeepsOthers.alloc _ _).from _) (KeepK.grown (row := none) (World.grownBy_alloc _ _ _) (fun r e => by cases e)) ?_ ⟨W.heap.size, al_newK _ _, hsz3, rfl⟩
    exact scanI_own w _ (Nat.le_refl _) _ _ _ none hI (World.grownBy_alloc _ _ _) (fun r e => by cases e)
  case body =>
    rintro l pre x a' W hl ⟨r, hr⟩ ⟨⟨sv, hb, hO, -⟩, hBW, hW3⟩ ⟨Bx, hbx, hBx, rfl⟩ hlt
    have b0 := hb.cell
    have b1 := hb.frozen
    have b2 := hb.lt
    obtain ⟨xc, -, xl⟩ := obj_cells hbx
    have x0 := xc 0
    have x1 := xc 1
    simp at x0 x1
    clear xc hG f0 f1 f2 hr
    obtain ⟨na, nc, rfl⟩ := owns_shp hO
    replace hb := Lib.hid hb
    have hsz := Lib.hid hBW.size
    gi_wp2_with (gi_at_builtin; refine wpListIn_append_own _ rfl _ _ 36 rfl (w.heap.size + 3) 39 i0 _ 2 32 underP hi hz0 hz1 hz2 rfl (by decide) _ _ _ rfl (hO.alloc _) ⟨W.heap.size, 0, none⟩ 1 1 (vC x.1.1 x.1.2) rfl rfl (fun j u h => by rw [Addr.add_lit]; exact vC_cells (heap_alloc _ _).1 j u h) (vC_one _ _) (by unfold maxLen; omega) (by omega) (by simp only [World.size_alloc]; omega) ?_
                 intro v' w2 hO2 hg2 _
                 have hg3 : (W.alloc (.cells #[.string ⟨x.1.1.toArray⟩, .string ⟨x.1.2.toArray⟩] 39)).grownBy w2 (Value.slice na pre.length nc).ownBlock := hg2
                 have hO3 : w2.ownsRow (w.heap.size + 3) 39 2 v' (pre ++ [x]).length (atCells ((pre ++ [x]).map (·.1))) := by rw [List.map_append, atC_app, List.length_append]; exact hO2
                 obtain ⟨hx1, hx2, hx3, hx4, hx5⟩ := hb.out.appended (by decide) (owns_down hO (by omega)) (by omega) (Nat.le_refl _) (owns_down hO3 (by omega)) hg3
                 have hkk := keepK_append (n₀ := w.heap.size) hb.out hO hg3 (Nat.le_add_right _ _) hx1 (hB := Nat.le_refl _)
                 obtain ⟨g', c', rfl⟩ := ownsRow_succ hO2
                 have z0 := hx1.cell
                 have z1 := hx1.frozen
                 have z2 := hx1.lt)
    have hO4 := hO3.kept (grownBy_setCell' w2 w.heap.size (.slice (some ⟨g', 0, none⟩) (pre.length + 1) c')) (.inr (hx1.not_row (by decide) hO3).symm)
    exact ⟨hx4.from _, hkk _, ⟨_, hx2, hO4, trivial⟩, hBW.trans hx5, Nat.le_trans hW3 hx5.size⟩
  case done =>
    rintro D xs W hD hxs ⟨⟨sv, hb, hO, -⟩, hBW, -⟩ hK
    simp only [World.size_alloc] at hD
    have b0 := hb.cell
    have b1 := hb.frozen
    have b2 := hb.lt
    have hS := owns_pair (E := xs.map (·.1)) (by rw [List.length_map]; exact hO)
    rw [hxs] at hS
    have hO2 := hO
    obtain ⟨na, nc, rfl⟩ := owns_shp hO
    clear hG f0 f1 f2
    gi_wp2
    refine ⟨by simp, .inl ⟨_, _, rfl, run_takeDeferred hK, ?_⟩⟩
    have hbl := belowK_b (w := w) (Nat.le_refl _) W D _ (.deferred none) (by omega) hK rfl rfl
    refine ⟨_, results_tmp rfl _ _ _, _, rfl, ?_, hBW.trans hbl⟩
    have := owns_pair (E := xs.map (·.1)) (by rw [List.length_map]; exact ownsRow_putObj hO2 (.deferred none) hK rfl)
    rw [hxs] at this
    exact this
  case stop =>
    rintro D c pre W hD hpre h hK
    exact h.elim
end Go.Proofs.Ytfeiihmhdcnabaa
