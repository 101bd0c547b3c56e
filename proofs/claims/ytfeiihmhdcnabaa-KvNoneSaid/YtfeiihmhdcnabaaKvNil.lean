/-
  Size, Scan, Bytes on a nil map, by the program. Printed by wip/tools/genkvnil.py out of the proofs on a map.
-/
import Derived.Test.YtfeiihmhdcnabaaKvSize
namespace Go.Proofs.Ytfeiihmhdcnabaa
set_option linter.unusedVariables false
set_option linter.unusedSimpArgs false
open Go.RowKit Go.MapKept Go.Shelf
attribute [local go_sem] Oper.semAt_some
theorem nilSorted_any (p : Txt) (w : World) :
    Calls Try.prog 35 #[.pointer none, .string ⟨p.toArray⟩] w fun e w' => e = .returned (.func (.func 41) #[] #[.pointer (some ⟨w.heap.size, 0, none⟩), .pointer (some ⟨w.heap.size + 1, 0, none⟩)]) ∧ w' = (w.alloc (.cells #[.pointer none] 22)).alloc (.cells #[.string ⟨p.toArray⟩] 9) := by
  go_enter Try.func35, Try.ntmps35
  go_wp2
  go_ret
  exact ⟨rfl, rfl⟩
set_option maxRecDepth 100000 in
theorem nil_stops (E : Ats) (p : Txt) (w0 w : World) (h : E = []) (hb : Below w0.heap.size w0 w) (Bm Bp : Nat) (hBm : w0.heap.size ≤ Bm) (hBp : w0.heap.size ≤ Bp)
    (hm : w.heap[Bm]? = some (.cells #[.pointer none] 22)) (hp : w.heap[Bp]? = some (.cells #[.string ⟨p.toArray⟩] 9)) :
    SeqStopsK Fence.wide 5 Try.prog 41 #[.pointer (some ⟨Bm, 0, none⟩), .pointer (some ⟨Bp, 0, none⟩)] encP (KeepK w0.heap.size) (fun xs => xs.map (·.1) = scanE E p) (fun _ => True) 129 w := by
  intro l J Jx W hW hJ hJx hY h0
  subst h
  have hm1 : W.heap[Bm]? = some (.cells #[.pointer none] 22) := (hW.block Bm (Array.getElem?_eq_some_iff.1 hm).1).trans hm
  obtain ⟨mc, -, ml⟩ := obj_cells hm1
  have mc0 := mc 0
  simp at mc0
  have hend : Hid (∃ xs : List PO, xs.map (·.1) = scanE [] p ∧ J xs W) := Lib.hid ⟨[], rfl, h0⟩
  clear mc hm hp hm1
  refine callsIn_of_wp Try.func41 rfl trivial ?_ rfl
  simp only [Try.ntmps41, List.size_toArray, List.length_cons, List.length_nil, Nat.reduceAdd, Nat.reduceSub, Array.replicate_succ, Array.replicate_zero, List.push_toArray, List.append_toArray, List.nil_append, List.cons_append]
  gi_wp2
  refine bodyPost_ret (results_none rfl _ _ _) rfl ?_
  exact ⟨⟨_, rfl⟩, .inl hend.out⟩
set_option maxRecDepth 100000 in
set_option maxHeartbeats 4000000 in
theorem nilSize_aux (E : Ats) (w : World) (h : E = []) :
    Calls Try.prog 27 #[.pointer none] w fun e w' => e = .returned (.int .i64 (sizeE E)) ∧ Below w.heap.size w w' := by
  obtain ⟨f0, f1, f2⟩ := three w (.cells #[.int .i64 0] 3) (.cells #[.pointer none] 22) (.cells #[.string ⟨([] : Txt).toArray⟩] 9)
  have hb3 : Below w.heap.size w (((w.alloc (.cells #[.int .i64 0] 3)).alloc (.cells #[.pointer none] 22)).alloc (.cells #[.string ⟨([] : Txt).toArray⟩] 9)) := belowA (belowA (below1 w _) _) _
  have hG := nil_stops E [] w _ h hb3 (w.heap.size + 1) (w.heap.size + 1 + 1) (by omega) (by omega) f1 f2
  rw [scan_all] at hG
  clear h
  refine (callsIn_wide (n := 6)).1 ?_
  refine callsIn_of_wp_marks Try.func27 rfl trivial ?_ rfl
  simp only [Try.ntmps27, List.size_toArray, List.length_cons, List.length_nil, Nat.reduceAdd, Nat.reduceSub, Array.replicate_succ, Array.replicate_zero, List.push_toArray, List.append_toArray, List.nil_append, List.cons_append]
  gi_wp2_with (refine ⟨trivial, ?_⟩; gi_at_call 35; refine (callsIn_wide.2 (nilSorted_any [] _)).mono ?_; rintro e w1 ⟨rfl, rfl⟩)
  refine wpIn_rangeFunc_ownH rfl (by decide) (gf := 41) (lb := #[.pointer (some ⟨w.heap.size + 1, 0, none⟩), .pointer (some ⟨w.heap.size + 1 + 1, 0, none⟩)]) rfl trivial (enters_of Try.func41 (by kernel_rfl) rfl) hG (fun h k => h.trans k) (keepK_b (by simp only [World.size_alloc]; omega)) (Below.refl _ _) (fun _ => rfl)
    (SizeI w) (fun _ _ _ => False) (sizeI_own w _ (by simp only [World.size_alloc]; omega)) (fun _ _ _ _ _ h _ _ => h) ⟨f0, hb3, by simp only [World.size_alloc]; omega⟩
    (fun x a' W => ∃ Bx, PairAt W Bx x ∧ w.heap.size + 3 ≤ Bx ∧ a' = { tmps := #[.pointer none, undef, .int .i64 0, .pointer (some ⟨w.heap.size, 0, none⟩), .pointer (some ⟨Bx, 0, none⟩), .pointer none, .func (.func 41) #[] #[.pointer (some ⟨w.heap.size + 1, 0, none⟩), .pointer (some ⟨w.heap.size + 1 + 1, 0, none⟩)], .agg #[.string ⟨x.1.1.toArray⟩, .string ⟨x.1.2.toArray⟩], undef, undef, undef, undef, undef, undef, undef, undef, undef, undef, undef], defers := [] })
    (fun x a' _ X Y row h hg hr => by obtain ⟨Bx, h1, h2⟩ := h; exact ⟨Bx, h1.kept hg (fun r e => (hr r e).2), h2⟩) ?assign ?body ?done ?stop
  case assign =>
    rintro l pre x W K hI hK
    have hsz := hI.2.1.size
    have hsz3 := hI.2.2
    have hlt := hI.1.lt
    dsimp only [encP]
    gi_wp2
    refine hK _ _ ((KeepsOthers.alloc _ _).from _) (KeepK.grown (row := none) (World.grownBy_alloc _ _ _) (fun r e => by cases e)) ?_ ⟨W.heap.size, al_newK _ _, hsz3, rfl⟩
    exact sizeI_own w _ (Nat.le_refl _) _ _ _ none hI (World.grownBy_alloc _ _ _) (fun r e => by cases e)
  case body =>
    rintro l pre x a' W hl ⟨r, hr⟩ ⟨hb, hBW, hW3⟩ ⟨Bx, hbx, hBx, rfl⟩ hlt
    have b0 := hb.cell
    have b1 := hb.frozen
    have b2 := hb.lt
    obtain ⟨xc, -, xl⟩ := obj_cells hbx
    have x0 := xc 0
    have x1 := xc 1
    simp at x0 x1
    clear xc hG f0 f1 f2 hr
    have hs1 : sizeE (pre.map (·.1)) ≤ 4163 * 129 := by
      have := bytes_le (po_ok pre)
      rw [List.length_map] at this
      unfold sizeE
      omega
    have hx1 := x.2.2.1
    have hx2 := x.2.2.2
    have hsn := Lib.hid (size_snoc pre x)
    replace hb := Lib.hid hb
    gi_wp2
    refine ⟨(KeepsOthers.setCell _ _ _).from _, ?_, ?_, ?_, ?_⟩
    · exact KeepK.grown (grownBy_setCell' W w.heap.size _) (fun r e => by cases e; exact ⟨Nat.le_refl _, not_isS hb.out (by decide) (by decide)⟩)
    · have e : ((sizeE (pre.map (·.1)) + (3 + x.1.1.length + x.1.2.length) : Nat) : Int) = (sizeE (pre.map (·.1)) : Int) + (3 + (x.1.1.length : Int) + (x.1.2.length : Int)) := by omega
      rw [hsn.out, e]
      exact hb.out.set _
    · exact hBW.setCell (p := ⟨w.heap.size, 0, none⟩) (Nat.le_refl _) _
    · rw [World.size_setCell]; exact hW3
  case done =>
    rintro D xs W hD hxs ⟨hb, hBW, -⟩ hK
    simp only [World.size_alloc] at hD
    have b0 := hb.cell
    have b1 := hb.frozen
    have b2 := hb.lt
    rw [hxs] at b0
    clear hG f0 f1 f2
    gi_wp2
    refine ⟨by simp, .inl ⟨_, _, rfl, run_takeDeferred hK, ?_⟩⟩
    have hbl := belowK_b (w := w) (Nat.le_refl _) W D _ (.deferred none) (by omega) hK rfl rfl
    exact ⟨_, results_tmp rfl _ _ _, rfl, hBW.trans hbl⟩
  case stop =>
    rintro D c pre W hD hpre h hK
    exact h.elim
set_option maxRecDepth 100000 in
set_option maxHeartbeats 4000000 in
theorem nilScan_aux (E : Ats) (p : Txt) (w : World) (h : E = []) :
    Calls Try.prog 18 #[.pointer none, .string ⟨p.toArray⟩] w fun e w' => ∃ sv, e = .returned sv ∧ AtS w' sv (scanE E p) ∧ Below w.heap.size w w' := by
  obtain ⟨i0, hi, hz0, hz1, hz2⟩ := info_parts infoP
  obtain ⟨f0, f1, f2⟩ := three w (.cells #[.slice none 0 0] 36) (.cells #[.pointer none] 22) (.cells #[.string ⟨p.toArray⟩] 9)
  have hb3 : Below w.heap.size w (((w.alloc (.cells #[.slice none 0 0] 36)).alloc (.cells #[.pointer none] 22)).alloc (.cells #[.string ⟨p.toArray⟩] 9)) := belowA (belowA (below1 w _) _) _
  have hG := nil_stops E p w _ h hb3 (w.heap.size + 1) (w.heap.size + 1 + 1) (by omega) (by omega) f1 f2
  clear h
  refine (callsIn_wide (n := 6)).1 ?_
  refine callsIn_of_wp_marks Try.func18 rfl trivial ?_ rfl
  simp only [Try.ntmps18, List.size_toArray, List.length_cons, List.length_nil, Nat.reduceAdd, Nat.reduceSub, Array.replicate_succ, Array.replicate_zero, List.push_toArray, List.append_toArray, List.nil_append, List.cons_append]
  gi_wp2_with (refine ⟨trivial, ?_⟩; gi_at_call 35; refine (callsIn_wide.2 (nilSorted_any p _)).mono ?_; rintro e w1 ⟨rfl, rfl⟩)
  refine wpIn_rangeFunc_ownH rfl (by decide) (gf := 41) (lb := #[.pointer (some ⟨w.heap.size + 1, 0, none⟩), .pointer (some ⟨w.heap.size + 1 + 1, 0, none⟩)]) rfl trivial (enters_of Try.func41 (by kernel_rfl) rfl) hG (fun h k => h.trans k) (keepK_b (by simp only [World.size_alloc]; omega)) (Below.refl _ _) (fun _ => rfl)
    (ScanI w) (fun _ _ _ => False) (scanI_own w _ (by simp only [World.size_alloc]; omega)) (fun _ _ _ _ _ h _ _ => h) ⟨⟨_, f0, World.ownsRow_nil _ _ _ _, trivial⟩, hb3, by simp only [World.size_alloc]; omega⟩
    (fun x a' W => ∃ Bx, PairAt W Bx x ∧ w.heap.size + 3 ≤ Bx ∧ a' = { tmps := #[.pointer none, .string ⟨p.toArray⟩, undef, undef, .slice none 0 0, .pointer (some ⟨w.heap.size, 0, none⟩), .pointer (some ⟨Bx, 0, none⟩), .pointer none, .string ⟨p.toArray⟩, .func (.func 41) #[] #[.pointer (some ⟨w.heap.size + 1, 0, none⟩), .pointer (some ⟨w.heap.size + 1 + 1, 0, none⟩)], .agg #[.string ⟨x.1.1.toArray⟩, .string ⟨x.1.2.toArray⟩], undef, undef, undef, undef, undef], defers := [] })
    (fun x a' _ X Y row h hg hr => by obtain ⟨Bx, h1, h2⟩ := h; exact ⟨Bx, h1.kept hg (fun r e => (hr r e).2), h2⟩) ?assign ?body ?done ?stop
  case assign =>
    rintro l pre x W K hI hK
    have hsz := hI.2.1.size
    have hsz3 := hI.2.2
    obtain ⟨sv, hbx, -⟩ := hI.1
    have hlt := hbx.lt
    dsimp only [encP]
    gi_wp2
    refine hK _ _ ((KeepsOthers.alloc _ _).from _) (KeepK.grown (row := none) (World.grownBy_alloc _ _ _) (fun r e => by cases e)) ?_ ⟨W.heap.size, al_newK _ _, hsz3, rfl⟩
    exact scanI_own w _ (Nat.le_refl _) _ _ _ none hI (World.grownBy_alloc _ _ _) (fun r e => by cases e)
  case body =>
    rintro l pre x a' W hl ⟨r, hr⟩ ⟨⟨sv, hb, hO, -⟩, hBW, hW3⟩ ⟨Bx, hbx, hBx, rfl⟩ hlt
    have b0 := hb.cell
    have b1 := hb.frozen
    have b2 := hb.lt
    obtain ⟨xc, -, xl⟩ := obj_cells hbx
    have x0 := xc 0
    have x1 := xc 1
    simp at x0 x1
    clear xc hG f0 f1 f2 hr
    obtain ⟨na, nc, rfl⟩ := owns_shp hO
    replace hb := Lib.hid hb
    have hsz := Lib.hid hBW.size
    gi_wp2_with (gi_at_builtin; refine wpListIn_append_own _ rfl _ _ 36 rfl (w.heap.size + 3) 39 i0 _ 2 32 underP hi hz0 hz1 hz2 rfl (by decide) _ _ _ rfl (hO.alloc _) ⟨W.heap.size, 0, none⟩ 1 1 (vC x.1.1 x.1.2) rfl rfl (fun j u h => by rw [Addr.add_lit]; exact vC_cells (heap_alloc _ _).1 j u h) (vC_one _ _) (by unfold maxLen; omega) (by omega) (by simp only [World.size_alloc]; omega) ?_
                 intro v' w2 hO2 hg2 _
                 have hg3 : (W.alloc (.cells #[.string ⟨x.1.1.toArray⟩, .string ⟨x.1.2.toArray⟩] 39)).grownBy w2 (Value.slice na pre.length nc).ownBlock := hg2
                 have hO3 : w2.ownsRow (w.heap.size + 3) 39 2 v' (pre ++ [x]).length (atCells ((pre ++ [x]).map (·.1))) := by rw [List.map_append, atC_app, List.length_append]; exact hO2
                 obtain ⟨hx1, hx2, hx3, hx4, hx5⟩ := hb.out.appended (by decide) (owns_down hO (by omega)) (by omega) (Nat.le_refl _) (owns_down hO3 (by omega)) hg3
                 have hkk := keepK_append (n₀ := w.heap.size) hb.out hO hg3 (Nat.le_add_right _ _) hx1 (hB := Nat.le_refl _)
                 obtain ⟨g', c', rfl⟩ := ownsRow_succ hO2
                 have z0 := hx1.cell
                 have z1 := hx1.frozen
                 have z2 := hx1.lt)
    have hO4 := hO3.kept (grownBy_setCell' w2 w.heap.size (.slice (some ⟨g', 0, none⟩) (pre.length + 1) c')) (.inr (hx1.not_row (by decide) hO3).symm)
    exact ⟨hx4.from _, hkk _, ⟨_, hx2, hO4, trivial⟩, hBW.trans hx5, Nat.le_trans hW3 hx5.size⟩
  case done =>
    rintro D xs W hD hxs ⟨⟨sv, hb, hO, -⟩, hBW, -⟩ hK
    simp only [World.size_alloc] at hD
    have b0 := hb.cell
    have b1 := hb.frozen
    have b2 := hb.lt
    have hS := owns_pair (E := xs.map (·.1)) (by rw [List.length_map]; exact hO)
    rw [hxs] at hS
    have hO2 := hO
    obtain ⟨na, nc, rfl⟩ := owns_shp hO
    clear hG f0 f1 f2
    gi_wp2
    refine ⟨by simp, .inl ⟨_, _, rfl, run_takeDeferred hK, ?_⟩⟩
    have hbl := belowK_b (w := w) (Nat.le_refl _) W D _ (.deferred none) (by omega) hK rfl rfl
    refine ⟨_, results_tmp rfl _ _ _, _, rfl, ?_, hBW.trans hbl⟩
    have := owns_pair (E := xs.map (·.1)) (by rw [List.length_map]; exact ownsRow_putObj hO2 (.deferred none) hK rfl)
    rw [hxs] at this
    exact this
  case stop =>
    rintro D c pre W hD hpre h hK
    exact h.elim
end Go.Proofs.Ytfeiihmhdcnabaa
