/-
  Size, by the program: a loop over the iterator. Condition: the map's pairs are right (okE).
-/
import Derived.Test.YtfeiihmhdcnabaaKvScan
namespace Go.Proofs.Ytfeiihmhdcnabaa
set_option linter.unusedVariables false
set_option linter.unusedSimpArgs false
open Go.RowKit Go.MapKept Go.Shelf
attribute [local go_sem] Oper.semAt_some
theorem scan_all (E : Ats) : scanE E [] = E := by
  unfold scanE
  refine List.filter_eq_self.2 fun e _ => ?_
  cases e.1 <;> rfl
theorem po_ok (pre : List PO) : ∀ e ∈ pre.map (·.1), okP e := by
  intro e he
  obtain ⟨x, -, rfl⟩ := List.mem_map.1 he
  exact x.2
theorem size_snoc (pre : List PO) (x : PO) : sizeE ((pre ++ [x]).map (·.1)) = sizeE (pre.map (·.1)) + (3 + x.1.1.length + x.1.2.length) := by
  unfold sizeE
  rw [List.map_append, bytes_app, List.length_append]
  congr 1
  show (bytesE [x.1]).length = _
  rw [bytes_cons, List.length_append, pairB_len]
  rfl
def SizeI (w : World) (pre : List PO) (W : World) : Prop := Boxed W w.heap.size 3 (.int .i64 (sizeE (pre.map (·.1)))) ∧ Below w.heap.size w W ∧ w.heap.size + 3 ≤ W.heap.size
theorem sizeI_own (w : World) (B : Nat) (hB : w.heap.size ≤ B) : OwnFrom B (SizeI w) := by
  rintro s X Y row ⟨h1, h2, h3⟩ hg hr
  refine ⟨h1.kept hg (fun e => ?_), h2.grown hg h2.size (fun k e => by have := (hr k e).1; omega), Nat.le_trans h3 hg.size⟩
  obtain ⟨-, o, ho, hc⟩ := hr _ e.symm
  rw [show X.heap[w.heap.size]? = _ from h1] at ho; cases ho; cases hc
set_option maxRecDepth 100000 in
set_option maxHeartbeats 4000000 in
theorem size_any (g b : Nat) (E : Ats) (w : World) (h : KvS w g b E) :
    Calls Try.prog 27 #[.pointer (some ⟨g, 0, none⟩)] w fun e w' => e = .returned (.int .i64 (sizeE E)) ∧ Below w.heap.size w w' := by
  obtain ⟨f0, f1, f2⟩ := three w (.cells #[.int .i64 0] 3) (.cells #[.pointer (some ⟨g, 0, none⟩)] 22) (.cells #[.string ⟨([] : Txt).toArray⟩] 9)
  have hb3 : Below w.heap.size w (((w.alloc (.cells #[.int .i64 0] 3)).alloc (.cells #[.pointer (some ⟨g, 0, none⟩)] 22)).alloc (.cells #[.string ⟨([] : Txt).toArray⟩] 9)) := belowA (belowA (below1 w _) _) _
  have hG := sorted_stops g b E [] w _ h hb3 (w.heap.size + 1) (w.heap.size + 1 + 1) (by omega) (by omega) f1 f2
  rw [scan_all] at hG
  replace h := Lib.hid h
  refine (callsIn_wide (n := 6)).1 ?_
  refine callsIn_of_wp_marks Try.func27 rfl trivial ?_ rfl
  simp only [Try.ntmps27, List.size_toArray, List.length_cons, List.length_nil, Nat.reduceAdd, Nat.reduceSub, Array.replicate_succ, Array.replicate_zero, List.push_toArray, List.append_toArray, List.nil_append, List.cons_append]
  gi_wp2_with (refine ⟨trivial, ?_⟩; gi_at_call 35; refine (callsIn_wide.2 (sorted_any g [] _)).mono ?_; rintro e w1 ⟨rfl, rfl⟩)
  refine wpIn_rangeFunc_ownH rfl (by decide) (gf := 41) (lb := #[.pointer (some ⟨w.heap.size + 1, 0, none⟩), .pointer (some ⟨w.heap.size + 1 + 1, 0, none⟩)]) rfl trivial (enters_of Try.func41 (by kernel_rfl) rfl) hG (fun h k => h.trans k) (keepK_b (by simp only [World.size_alloc]; omega)) (Below.refl _ _) (fun _ => rfl)
    (SizeI w) (fun _ _ _ => False) (sizeI_own w _ (by simp only [World.size_alloc]; omega)) (fun _ _ _ _ _ h _ _ => h) ⟨f0, hb3, by simp only [World.size_alloc]; omega⟩
    (fun x a' W => ∃ Bx, PairAt W Bx x ∧ w.heap.size + 3 ≤ Bx ∧ a' = { tmps := #[.pointer (some ⟨g, 0, none⟩), undef, .int .i64 0, .pointer (some ⟨w.heap.size, 0, none⟩), .pointer (some ⟨Bx, 0, none⟩), .pointer (some ⟨g, 0, none⟩), .func (.func 41) #[] #[.pointer (some ⟨w.heap.size + 1, 0, none⟩), .pointer (some ⟨w.heap.size + 1 + 1, 0, none⟩)], .agg #[.string ⟨x.1.1.toArray⟩, .string ⟨x.1.2.toArray⟩], undef, undef, undef, undef, undef, undef, undef, undef, undef, undef, undef], defers := [] })
    (fun x a' _ X Y row h hg hr => by obtain ⟨Bx, h1, h2⟩ := h; exact ⟨Bx, h1.kept hg (fun r e => (hr r e).2), h2⟩) ?assign ?body ?done ?stop
  case assign =>
    rintro l pre x W K hI hK
    have hsz := hI.2.1.size
    have hsz3 := hI.2.2
    have hlt := hI.1.lt
    dsimp only [encP]
    gi_wp2
    refine hK _ _ ((KeepsOthers.alloc _ _).from _) (KeepK.grown (row := none) (World.grownBy_alloc _ _ _) (fun r e => by cases e)) ?_ ⟨W.heap.size, al_newK _ _, hsz3, rfl⟩
    exact sizeI_own w _ (Nat.le_refl _) _ _ _ none hI (World.grownBy_alloc _ _ _) (fun r e => by cases e)
  case body =>
    rintro l pre x a' W hl ⟨r, hr⟩ ⟨hb, hBW, hW3⟩ ⟨Bx, hbx, hBx, rfl⟩ hlt
    have b0 := hb.cell
    have b1 := hb.frozen
    have b2 := hb.lt
    obtain ⟨xc, -, xl⟩ := obj_cells hbx
    have x0 := xc 0
    have x1 := xc 1
    simp at x0 x1
    clear xc hG f0 f1 f2 hr
    have hs1 : sizeE (pre.map (·.1)) ≤ 4163 * 129 := by
      have := bytes_le (po_ok pre)
      rw [List.length_map] at this
      unfold sizeE
      omega
    have hx1 := x.2.2.1
    have hx2 := x.2.2.2
    have hsn := Lib.hid (size_snoc pre x)
    replace hb := Lib.hid hb
    gi_wp2
    refine ⟨(KeepsOthers.setCell _ _ _).from _, ?_, ?_, ?_, ?_⟩
    · exact KeepK.grown (grownBy_setCell' W w.heap.size _) (fun r e => by cases e; exact ⟨Nat.le_refl _, not_isS hb.out (by decide) (by decide)⟩)
    · have e : ((sizeE (pre.map (·.1)) + (3 + x.1.1.length + x.1.2.length) : Nat) : Int) = (sizeE (pre.map (·.1)) : Int) + (3 + (x.1.1.length : Int) + (x.1.2.length : Int)) := by omega
      rw [hsn.out, e]
      exact hb.out.set _
    · exact hBW.setCell (p := ⟨w.heap.size, 0, none⟩) (Nat.le_refl _) _
    · rw [World.size_setCell]; exact hW3
  case done =>
    rintro D xs W hD hxs ⟨hb, hBW, -⟩ hK
    simp only [World.size_alloc] at hD
    have b0 := hb.cell
    have b1 := hb.frozen
    have b2 := hb.lt
    rw [hxs] at b0
    clear hG f0 f1 f2
    gi_wp2
    refine ⟨by simp, .inl ⟨_, _, rfl, run_takeDeferred hK, ?_⟩⟩
    have hbl := belowK_b (w := w) (Nat.le_refl _) W D _ (.deferred none) (by omega) hK rfl rfl
    exact ⟨_, results_tmp rfl _ _ _, rfl, hBW.trans hbl⟩
  case stop =>
    rintro D c pre W hD hpre h hK
    exact h.elim
end Go.Proofs.Ytfeiihmhdcnabaa
