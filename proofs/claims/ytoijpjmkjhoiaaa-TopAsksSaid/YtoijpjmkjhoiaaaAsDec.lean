/-
  What an owner decides (node.Decide): yes, no; what somebody else may not. Condition: the nodes of TopAsks.
-/
import Derived.Test.YtoijpjmkjhoiaaaAsSub
namespace Go.Proofs.Ytoijpjmkjhoiaaa
set_option linter.unusedVariables false
set_option linter.unusedSimpArgs false
open Go.RowKit Go.MapKept Go.Shelf
theorem own_kept {w w' : World} {base m : Nat} {e : TypeId} {size : Nat} {v : Value} {n : Nat} {xs : List Value} (h : w.ownsRow base e size v n xs) (hm : ∀ r, v.ownBlock = some r → r < m) (hb : Below m w w') : w'.ownsRow base e size v n xs := by
  refine ⟨h.1, ?_⟩
  rcases h.2 with h2 | ⟨g, cap, cur, rfl, h2, h3, h4⟩
  · exact .inl h2
  · exact .inr ⟨g, cap, cur, rfl, h2, (hb.block g (hm g rfl)).trans h3, h4⟩
theorem obj_under {W w' : World} {b m : Nat} {o : Obj} (h : W.heap[b]? = some o) (hm : b < m) (hb : Below m W w') : w'.heap[b]? = some o := (hb.block b hm).trans h
theorem below_over {w W w' : World} {m : Nat} (h : Below w.heap.size w W) (hm : w.heap.size ≤ m) (hb : Below m W w') : Below w.heap.size w w' := h.trans (hb.mono hm)
theorem set1_obj {W : World} {b : Nat} {x0 x1 x2 y1 : Value} {t : TypeId} (ho : W.heap[b]? = some (.cells #[x0, x1, x2] t)) : (W.setCell ⟨b, 1, none⟩ y1).heap[b]? = some (.cells #[x0, y1, x2] t) := by
  have h0 := obj_set (i := 1) ho y1
  simp only [List.setIfInBounds_toArray, List.set_cons_zero, List.set_cons_succ] at h0
  exact h0
theorem decide_not (base : Nat) (w : World) (av sv : Value) (yes : Bool) (h : NdAt [(oT, 5)] [(sT, true, 0)] base w av sv) :
    Calls Try.prog 5 #[NdV av sv, .string ⟨sT.toArray⟩, .string ⟨sT.toArray⟩, .bool yes] w fun e w' => e = .returned (.tuple #[zeroNd, .int .i64 3]) ∧ Below w.heap.size w w' := by
  obtain ⟨⟨a, c, hav⟩, ⟨a', c', hsv⟩⟩ := h.shape
  subst hav hsv
  obtain ⟨w2, hw2, ho1, ho2, hB2, hs2⟩ := two_boxes w (.slice a 1 c) (.slice a' 1 c')
  have hOw := Lib.hid (fun W (hW : Below w.heap.size w W) => ownerT_any (h.below hW) sT)
  have hRf := Lib.hid (fun W => refused_any 3 W)
  rw [show (if roleN (ndA [(oT, 5)] [(sT, true, 0)]) sT = 5 then (0 : Int) else 3) = 3 by decide] at hOw
  obtain ⟨c0, c1, c2, c3, c4, c5, c6, c7, cf, cl⟩ := nd8 ho1
  replace ho1 := Lib.hid ho1
  replace ho2 := Lib.hid ho2
  replace hB2 := Lib.hid hB2
  replace h := Lib.hid h
  unfold zeroNd at hRf ⊢
  go_enter Try.func5, Try.ntmps5
  go_wp2_with (first
    | (go_at_call 11; refine (hRf.out _).mono ?_; rintro e w9 ⟨rfl, hb9⟩
       have q9 := Lib.hid (obj_below q8.out hb9)
       obtain ⟨k0, k1, k2, k3, k4, k5, k6, k7, kf, kl⟩ := nd8 q9.out
       have B9 := Lib.hid (belowT B8.out hb9))
    | (go_at_call 17; refine (hOw.out _ hB2.out).mono ?_; rintro e w8 ⟨rfl, hb8⟩
       have q8 := Lib.hid (obj_below ho2.out hb8)
       have B8 := Lib.hid (belowT hB2.out hb8)))
  refine bodyPost_ret (v := .tuple #[.agg #[.string ⟨#[]⟩, .bool false, .int .u8 0, .int .i64 0, .slice none 0 0, .slice none 0 0, .slice none 0 0, .string ⟨#[]⟩], .int .i64 3]) (results_cell2 (ad := ⟨w.heap.size + 1, 0, none⟩) Try.results5 rfl (loadz (put8_obj q9.out)) rfl) rfl ⟨rfl, ?_⟩
  exact put8_below (b := w.heap.size + 1) B9.out (by omega)
theorem owns_hdx {w : World} {base : Nat} {e : TypeId} {size : Nat} {v : Value} {n : Nat} {xs : List Value} (h : w.ownsRow base e size v n xs) (hn : 0 < n) : ∃ g c, v = .slice (some ⟨g, 0, none⟩) n c ∧ base ≤ g ∧ g < w.heap.size := by
  rcases h.2 with ⟨_, h0⟩ | ⟨g, cap, cur, hv, hb, hg, _⟩
  · omega
  · exact ⟨g, cap, hv, hb, (Array.getElem?_eq_some_iff.1 hg).1⟩
set_option maxRecDepth 100000 in
set_option maxHeartbeats 4000000 in
theorem decide_yes (base : Nat) (w : World) (av sv : Value) (h : NdAt [(oT, 5)] [(sT, true, 0)] base w av sv) :
    Calls Try.prog 5 #[NdV av sv, .string ⟨oT.toArray⟩, .string ⟨sT.toArray⟩, .bool true] w fun e w' => ∃ av' sv', e = .returned (.tuple #[NdV av' sv', .int .i64 0]) ∧ NdAt [(oT, 5)] [(sT, false, 0)] w.heap.size w' av' sv' ∧ Below w.heap.size w w' := by
  obtain ⟨⟨a, c, hav⟩, ⟨a', c', hsv⟩⟩ := h.shape
  subst hav hsv
  obtain ⟨w2, hw2, ho1, ho2, hB2, hs2⟩ := two_boxes w (.slice a 1 c) (.slice a' 1 c')
  have hOn := Lib.hid (fun W (hW : Below w.heap.size w W) => ownerT_any (h.below hW) oT)
  have hSu := Lib.hid (fun W (hW : Below w.heap.size w W) => subT_any (h.below hW) sT)
  have hOw := Lib.hid (fun W (hW : Below w.heap.size w W) => own_any [110] [] false 1 3 _ _ [(oT, 5)] [(sT, true, 0)] base base W (h.below hW).2.2.1 (h.below hW).2.2.2 (by decide) (by decide))
  rw [show (if roleN (ndA [(oT, 5)] [(sT, true, 0)]) oT = 5 then (0 : Int) else 3) = 0 by decide] at hOn
  rw [show subN (ndA [(oT, 5)] [(sT, true, 0)]) sT = some (sT, true, 0) by decide] at hSu
  obtain ⟨c0, c1, c2, c3, c4, c5, c6, c7, cf, cl⟩ := nd8 ho1
  replace ho1 := Lib.hid ho1
  replace ho2 := Lib.hid ho2
  replace hB2 := Lib.hid hB2
  replace hs2 := Lib.hid hs2
  replace h := Lib.hid h
  go_enter Try.func5, Try.ntmps5
  go_upto_region 5 with (first
    | (go_at_call 13; refine (hSu.out _ B5.out).mono ?_; rintro e w6 ⟨⟨x, rfl, hx6⟩, hb6⟩
       obtain rfl := hx6 _ rfl
       clear hx6
       have p6 := Lib.hid (obj_below p5.out hb6)
       have q6 := Lib.hid (obj_below q5.out hb6)
       obtain ⟨g0, g1, g2, g3, g4, g5, g6, g7, gf, gl⟩ := nd8 q6.out
       have B6 := Lib.hid (belowT B5.out hb6))
    | (go_at_call 17; refine (hOn.out _ hB2.out).mono ?_; rintro e w5 ⟨rfl, hb5⟩
       have p5 := Lib.hid (obj_below ho1.out hb5)
       have q5 := Lib.hid (obj_below ho2.out hb5)
       obtain ⟨f0, f1, f2, f3, f4, f5, f6, f7, ff, fl⟩ := nd8 p5.out
       have B5 := Lib.hid (belowT hB2.out hb5)))
  obtain ⟨W7, hW7, p7, q7, s7, B7⟩ : ∃ W7, w6.alloc (.cells #[.string ⟨sT.toArray⟩, .bool true, .int .i64 0] 46) = W7 ∧ W7.heap[w.heap.size]? = some (NdO (.slice a 1 c) (.slice a' 1 c')) ∧ W7.heap[w.heap.size + 1]? = some NdZ ∧ W7.heap[w6.heap.size]? = some (.cells #[.string ⟨sT.toArray⟩, .bool true, .int .i64 0] 46) ∧ Below w.heap.size w W7 :=
    ⟨_, rfl, obj_alloc p6.out, obj_alloc q6.out, bare_nd _ _, belowA B6.out _⟩
  rw [hW7]
  generalize w6.heap.size = bs at gl s7 ⊢
  clear f0 f1 f2 f3 f4 f5 f6 f7 ff fl g0 g1 g2 g3 g4 g5 g6 g7 gf p6 q6 p5 q5 c0 c1 c2 c3 c4 c5 c6 c7 cf cl ho1 ho2
  obtain ⟨f0, f1, f2, f3, f4, f5, f6, f7, ff, fl⟩ := nd8 p7
  obtain ⟨k0, k1, k2, kf, kl⟩ := su3 s7
  replace p7 := Lib.hid p7
  replace q7 := Lib.hid q7
  replace s7 := Lib.hid s7
  replace B7 := Lib.hid B7
  go_upto_region 8 with (go_at_call 14; refine (hOw.out _ B7.out).mono ?_; rintro e w10 ⟨av', sv', rfl, rA, ⟨m5, hm5, rS, hlt5⟩, hb10, -⟩
                         have p10 := Lib.hid (obj_below p7.out hb10)
                         have q10 := Lib.hid (obj_below q7.out hb10)
                         have s10 := Lib.hid (obj_below s7.out hb10)
                         obtain ⟨aA, cA, rfl⟩ := owns_vw rA
                         obtain ⟨gS, cS, hvS, hgS, hgSl⟩ := owns_hdx rS (by decide)
                         subst hvS
                         obtain ⟨g0, g1, g2, g3, g4, g5, g6, g7, gf, gl10⟩ := nd8 p10.out
                         have B10 := Lib.hid (belowT B7.out hb10)
                         have r10 := Lib.hid rA
                         have t10 := Lib.hid rS
                         replace hlt5 := Lib.hid hlt5
                         clear rA rS)
  have hw7 : w.heap.size + 1 < W7.heap.size := (Array.getElem?_eq_some_iff.1 q7.out).1
  have hbs7 : bs < W7.heap.size := kl
  have hbs : w.heap.size + 1 < bs := gl
  obtain ⟨W8, hW8, p8, q8, s8, B8, r8, t8⟩ : ∃ W8, put8 w10 w.heap.size (.string ⟨#[110]⟩) (.bool false) (.int .u8 1) (.int .i64 3) (.slice aA 1 cA) (.slice (some ⟨gS, 0, none⟩) 1 cS) (.slice none 0 0) (.string ⟨#[]⟩) = W8 ∧ W8.heap[w.heap.size]? = some (NdO (.slice aA 1 cA) (.slice (some ⟨gS, 0, none⟩) 1 cS)) ∧ W8.heap[w.heap.size + 1]? = some NdZ ∧ W8.heap[bs]? = some (.cells #[.string ⟨sT.toArray⟩, .bool true, .int .i64 0] 46) ∧ Below w.heap.size w W8 ∧ W8.ownsRow W7.heap.size 25 2 (.slice aA 1 cA) 1 (afC [(oT, 5)]) ∧ W8.ownsRow m5 46 3 (.slice (some ⟨gS, 0, none⟩) 1 cS) 1 (suC [(sT, true, 0)]) :=
    ⟨_, rfl, put8_obj p10.out, (put8_other (by omega)).trans q10.out, (put8_other (by omega)).trans s10.out, put8_below B10.out (Nat.le_refl _), owns_hx r10.out fun g hg => put8_other (by omega), owns_hx t10.out fun g hg => put8_other (by omega)⟩
  unfold put8 at hW8
  rw [hW8]
  clear f0 f1 f2 f3 f4 f5 f6 f7 ff fl g0 g1 g2 g3 g4 g5 g6 g7 gf gl10 p10 q10 s10 B10 r10 p7 q7 s7 B7 k0 k1 k2 kf kl t10 hW8 hW7
  obtain ⟨k0, k1, k2, kf, kl⟩ := su3 s8
  replace p8 := Lib.hid p8
  replace q8 := Lib.hid q8
  replace s8 := Lib.hid s8
  replace B8 := Lib.hid B8
  replace r8 := Lib.hid r8
  replace t8 := Lib.hid t8
  go_upto_region 10 with (fail)
  obtain ⟨W11, hW11, p11, q11, s11, B11, r11, t11⟩ : ∃ W11, W8.setCell ⟨bs, 1, none⟩ (.bool false) = W11 ∧ W11.heap[w.heap.size]? = some (NdO (.slice aA 1 cA) (.slice (some ⟨gS, 0, none⟩) 1 cS)) ∧ W11.heap[w.heap.size + 1]? = some NdZ ∧ W11.heap[bs]? = some (.cells #[.string ⟨sT.toArray⟩, .bool false, .int .i64 0] 46) ∧ Below w.heap.size w W11 ∧ W11.ownsRow W7.heap.size 25 2 (.slice aA 1 cA) 1 (afC [(oT, 5)]) ∧ W11.ownsRow m5 46 3 (.slice (some ⟨gS, 0, none⟩) 1 cS) 1 (suC [(sT, true, 0)]) :=
    ⟨_, rfl, (Below.heap_setCell _ _ _ _ (by show w.heap.size ≠ bs; omega)).trans p8.out, (Below.heap_setCell _ _ _ _ (by show w.heap.size + 1 ≠ bs; omega)).trans q8.out, set1_obj s8.out, B8.out.setCell (p := ⟨bs, 1, none⟩) (by show w.heap.size ≤ bs; omega) _,
      owns_hx r8.out fun g hg => Below.heap_setCell _ _ _ _ (by show g ≠ bs; omega), owns_hx t8.out fun g hg => Below.heap_setCell _ _ _ _ (by show g ≠ bs; omega)⟩
  have hSt := Lib.hid (setSub1x_any sT false true 0 0 gS cS m5 W11 t11)
  rw [hW11]
  clear k0 k1 k2 kf kl p8 q8 s8 B8 r8 t8 hW11
  obtain ⟨f0, f1, f2, f3, f4, f5, f6, f7, ff, fl⟩ := nd8 p11
  obtain ⟨k0, k1, k2, kf, kl⟩ := su3 s11
  replace p11 := Lib.hid p11
  replace q11 := Lib.hid q11
  replace s11 := Lib.hid s11
  replace B11 := Lib.hid B11
  replace r11 := Lib.hid r11
  replace t11 := Lib.hid t11
  go_upto_region 12 with (go_at_call 15; refine hSt.out.mono ?_; rintro e w12 ⟨rfl, hO12, hb12⟩
                          have p12 := Lib.hid (obj_under p11.out (by omega) hb12)
                          have q12 := Lib.hid (obj_under q11.out (by omega) hb12)
                          obtain ⟨g0, g1, g2, g3, g4, g5, g6, g7, gf, gl12⟩ := nd8 p12.out
                          have B12 := Lib.hid (below_over B11.out (by omega) hb12)
                          have r12 := Lib.hid (own_kept r11.out hlt5.out hb12)
                          replace hO12 := Lib.hid hO12
                          clear hb12)
  obtain ⟨W13, hW13, p13, q13, B13, r13, t13⟩ : ∃ W13, w12.setCell ⟨w.heap.size, 5, none⟩ (.slice (some ⟨gS, 0, none⟩) 1 cS) = W13 ∧ W13.heap[w.heap.size]? = some (NdO (.slice aA 1 cA) (.slice (some ⟨gS, 0, none⟩) 1 cS)) ∧ W13.heap[w.heap.size + 1]? = some NdZ ∧ Below w.heap.size w W13 ∧ W13.ownsRow W7.heap.size 25 2 (.slice aA 1 cA) 1 (afC [(oT, 5)]) ∧ W13.ownsRow m5 46 3 (.slice (some ⟨gS, 0, none⟩) 1 cS) 1 (suC [(sT, false, 0)]) :=
    ⟨_, rfl, obj_set (i := 5) p12.out _, (Below.heap_setCell _ _ _ _ (by show w.heap.size + 1 ≠ w.heap.size; omega)).trans q12.out, B12.out.setCell (p := ⟨w.heap.size, 5, none⟩) (Nat.le_refl _) _, owns_hx r12.out fun g hg => Below.heap_setCell _ _ _ _ (by show g ≠ w.heap.size; omega), owns_hx hO12.out fun g hg => Below.heap_setCell _ _ _ _ (by show g ≠ w.heap.size; omega)⟩
  rw [hW13]
  clear f0 f1 f2 f3 f4 f5 f6 f7 ff fl k0 k1 k2 kf kl g0 g1 g2 g3 g4 g5 g6 g7 gf gl12 p12 q12 B12 r12 hO12 p11 q11 s11 B11 r11
  obtain ⟨f0, f1, f2, f3, f4, f5, f6, f7, ff, fl⟩ := nd8 p13
  obtain ⟨g0, g1, g2, g3, g4, g5, g6, g7, gf, gl⟩ := nd8 q13
  replace p13 := Lib.hid p13
  replace q13 := Lib.hid q13
  replace B13 := Lib.hid B13
  replace r13 := Lib.hid r13
  replace t13 := Lib.hid t13
  go_wp2_with fail
  refine bodyPost_ret (v := .tuple #[NdV (.slice aA 1 cA) (.slice (some ⟨gS, 0, none⟩) 1 cS), .int .i64 0]) (results_cell2 (ad := ⟨w.heap.size + 1, 0, none⟩) Try.results5 rfl (load8 (put8_obj q13.out) rfl) rfl) rfl ⟨_, _, rfl, ⟨.inl rfl, .inr ⟨false, rfl⟩, ?_, ?_⟩, ?_⟩
  · exact owns_dox (owns_hx (base := W7.heap.size) r13.out fun g hg => put8_other (b := w.heap.size + 1) (by omega)) (by omega)
  · exact owns_dox (owns_hx (base := m5) t13.out fun g hg => put8_other (b := w.heap.size + 1) (by omega)) (by omega)
  · exact put8_below (b := w.heap.size + 1) B13.out (by omega)
set_option maxRecDepth 100000 in
set_option maxHeartbeats 4000000 in
theorem decide_no (base : Nat) (w : World) (av sv : Value) (h : NdAt [(oT, 5)] [(sT, true, 0)] base w av sv) :
    Calls Try.prog 5 #[NdV av sv, .string ⟨oT.toArray⟩, .string ⟨sT.toArray⟩, .bool false] w fun e w' => ∃ av' sv', e = .returned (.tuple #[NdV av' sv', .int .i64 0]) ∧ NdAt [(oT, 5)] [] w.heap.size w' av' sv' ∧ Below w.heap.size w w' := by
  obtain ⟨⟨a, c, hav⟩, ⟨a', c', hsv⟩⟩ := h.shape
  subst hav hsv
  obtain ⟨w2, hw2, ho1, ho2, hB2, hs2⟩ := two_boxes w (.slice a 1 c) (.slice a' 1 c')
  have hOn := Lib.hid (fun W (hW : Below w.heap.size w W) => ownerT_any (h.below hW) oT)
  have hSu := Lib.hid (fun W (hW : Below w.heap.size w W) => subT_any (h.below hW) sT)
  have hOw := Lib.hid (fun W (hW : Below w.heap.size w W) => own_any [110] [] false 1 3 _ _ [(oT, 5)] [(sT, true, 0)] base base W (h.below hW).2.2.1 (h.below hW).2.2.2 (by decide) (by decide))
  rw [show (if roleN (ndA [(oT, 5)] [(sT, true, 0)]) oT = 5 then (0 : Int) else 3) = 0 by decide] at hOn
  rw [show subN (ndA [(oT, 5)] [(sT, true, 0)]) sT = some (sT, true, 0) by decide] at hSu
  obtain ⟨c0, c1, c2, c3, c4, c5, c6, c7, cf, cl⟩ := nd8 ho1
  replace ho1 := Lib.hid ho1
  replace ho2 := Lib.hid ho2
  replace hB2 := Lib.hid hB2
  replace hs2 := Lib.hid hs2
  replace h := Lib.hid h
  go_enter Try.func5, Try.ntmps5
  go_upto_region 5 with (first
    | (go_at_call 13; refine (hSu.out _ B5.out).mono ?_; rintro e w6 ⟨⟨x, rfl, hx6⟩, hb6⟩
       obtain rfl := hx6 _ rfl
       clear hx6
       have p6 := Lib.hid (obj_below p5.out hb6)
       have q6 := Lib.hid (obj_below q5.out hb6)
       obtain ⟨g0, g1, g2, g3, g4, g5, g6, g7, gf, gl⟩ := nd8 q6.out
       have B6 := Lib.hid (belowT B5.out hb6))
    | (go_at_call 17; refine (hOn.out _ hB2.out).mono ?_; rintro e w5 ⟨rfl, hb5⟩
       have p5 := Lib.hid (obj_below ho1.out hb5)
       have q5 := Lib.hid (obj_below ho2.out hb5)
       obtain ⟨f0, f1, f2, f3, f4, f5, f6, f7, ff, fl⟩ := nd8 p5.out
       have B5 := Lib.hid (belowT hB2.out hb5)))
  obtain ⟨W7, hW7, p7, q7, s7, B7⟩ : ∃ W7, w6.alloc (.cells #[.string ⟨sT.toArray⟩, .bool true, .int .i64 0] 46) = W7 ∧ W7.heap[w.heap.size]? = some (NdO (.slice a 1 c) (.slice a' 1 c')) ∧ W7.heap[w.heap.size + 1]? = some NdZ ∧ W7.heap[w6.heap.size]? = some (.cells #[.string ⟨sT.toArray⟩, .bool true, .int .i64 0] 46) ∧ Below w.heap.size w W7 :=
    ⟨_, rfl, obj_alloc p6.out, obj_alloc q6.out, bare_nd _ _, belowA B6.out _⟩
  rw [hW7]
  generalize w6.heap.size = bs at gl s7 ⊢
  clear f0 f1 f2 f3 f4 f5 f6 f7 ff fl g0 g1 g2 g3 g4 g5 g6 g7 gf p6 q6 p5 q5 c0 c1 c2 c3 c4 c5 c6 c7 cf cl ho1 ho2
  obtain ⟨f0, f1, f2, f3, f4, f5, f6, f7, ff, fl⟩ := nd8 p7
  obtain ⟨k0, k1, k2, kf, kl⟩ := su3 s7
  replace p7 := Lib.hid p7
  replace q7 := Lib.hid q7
  replace s7 := Lib.hid s7
  replace B7 := Lib.hid B7
  go_upto_region 8 with (go_at_call 14; refine (hOw.out _ B7.out).mono ?_; rintro e w10 ⟨av', sv', rfl, rA, ⟨m5, hm5, rS, hlt5⟩, hb10, -⟩
                         have p10 := Lib.hid (obj_below p7.out hb10)
                         have q10 := Lib.hid (obj_below q7.out hb10)
                         have s10 := Lib.hid (obj_below s7.out hb10)
                         obtain ⟨aA, cA, rfl⟩ := owns_vw rA
                         obtain ⟨gS, cS, hvS, hgS, hgSl⟩ := owns_hdx rS (by decide)
                         subst hvS
                         obtain ⟨g0, g1, g2, g3, g4, g5, g6, g7, gf, gl10⟩ := nd8 p10.out
                         have B10 := Lib.hid (belowT B7.out hb10)
                         have r10 := Lib.hid rA
                         have t10 := Lib.hid rS
                         replace hlt5 := Lib.hid hlt5
                         clear rA rS)
  have hw7 : w.heap.size + 1 < W7.heap.size := (Array.getElem?_eq_some_iff.1 q7.out).1
  have hbs7 : bs < W7.heap.size := kl
  have hbs : w.heap.size + 1 < bs := gl
  obtain ⟨W8, hW8, p8, q8, s8, B8, r8, t8⟩ : ∃ W8, put8 w10 w.heap.size (.string ⟨#[110]⟩) (.bool false) (.int .u8 1) (.int .i64 3) (.slice aA 1 cA) (.slice (some ⟨gS, 0, none⟩) 1 cS) (.slice none 0 0) (.string ⟨#[]⟩) = W8 ∧ W8.heap[w.heap.size]? = some (NdO (.slice aA 1 cA) (.slice (some ⟨gS, 0, none⟩) 1 cS)) ∧ W8.heap[w.heap.size + 1]? = some NdZ ∧ W8.heap[bs]? = some (.cells #[.string ⟨sT.toArray⟩, .bool true, .int .i64 0] 46) ∧ Below w.heap.size w W8 ∧ W8.ownsRow W7.heap.size 25 2 (.slice aA 1 cA) 1 (afC [(oT, 5)]) ∧ W8.ownsRow m5 46 3 (.slice (some ⟨gS, 0, none⟩) 1 cS) 1 (suC [(sT, true, 0)]) :=
    ⟨_, rfl, put8_obj p10.out, (put8_other (by omega)).trans q10.out, (put8_other (by omega)).trans s10.out, put8_below B10.out (Nat.le_refl _), owns_hx r10.out fun g hg => put8_other (by omega), owns_hx t10.out fun g hg => put8_other (by omega)⟩
  unfold put8 at hW8
  rw [hW8]
  clear f0 f1 f2 f3 f4 f5 f6 f7 ff fl g0 g1 g2 g3 g4 g5 g6 g7 gf gl10 p10 q10 s10 B10 r10 p7 q7 s7 B7 k0 k1 k2 kf kl t10 hW8 hW7
  obtain ⟨k0, k1, k2, kf, kl⟩ := su3 s8
  replace p8 := Lib.hid p8
  replace q8 := Lib.hid q8
  replace s8 := Lib.hid s8
  replace B8 := Lib.hid B8
  replace r8 := Lib.hid r8
  replace t8 := Lib.hid t8
  go_upto_region 11 with (fail)
  obtain ⟨W11, hW11, p11, q11, s11, B11, r11, t11⟩ : ∃ W11, W8.setCell ⟨bs, 1, none⟩ (.bool false) = W11 ∧ W11.heap[w.heap.size]? = some (NdO (.slice aA 1 cA) (.slice (some ⟨gS, 0, none⟩) 1 cS)) ∧ W11.heap[w.heap.size + 1]? = some NdZ ∧ W11.heap[bs]? = some (.cells #[.string ⟨sT.toArray⟩, .bool false, .int .i64 0] 46) ∧ Below w.heap.size w W11 ∧ W11.ownsRow W7.heap.size 25 2 (.slice aA 1 cA) 1 (afC [(oT, 5)]) ∧ W11.ownsRow m5 46 3 (.slice (some ⟨gS, 0, none⟩) 1 cS) 1 (suC [(sT, true, 0)]) :=
    ⟨_, rfl, (Below.heap_setCell _ _ _ _ (by show w.heap.size ≠ bs; omega)).trans p8.out, (Below.heap_setCell _ _ _ _ (by show w.heap.size + 1 ≠ bs; omega)).trans q8.out, set1_obj s8.out, B8.out.setCell (p := ⟨bs, 1, none⟩) (by show w.heap.size ≤ bs; omega) _,
      owns_hx r8.out fun g hg => Below.heap_setCell _ _ _ _ (by show g ≠ bs; omega), owns_hx t8.out fun g hg => Below.heap_setCell _ _ _ _ (by show g ≠ bs; omega)⟩
  have hSt := Lib.hid (dropSub1x_any sT true 0 gS cS m5 W11 t11)
  rw [hW11]
  clear k0 k1 k2 kf kl p8 q8 s8 B8 r8 t8 hW11
  obtain ⟨f0, f1, f2, f3, f4, f5, f6, f7, ff, fl⟩ := nd8 p11
  obtain ⟨k0, k1, k2, kf, kl⟩ := su3 s11
  replace p11 := Lib.hid p11
  replace q11 := Lib.hid q11
  replace s11 := Lib.hid s11
  replace B11 := Lib.hid B11
  replace r11 := Lib.hid r11
  replace t11 := Lib.hid t11
  go_upto_region 12 with (go_at_call 18; refine hSt.out.mono ?_; rintro e w12 ⟨rfl, hO12, hb12, -⟩
                          have p12 := Lib.hid (obj_under p11.out (by omega) hb12)
                          have q12 := Lib.hid (obj_under q11.out (by omega) hb12)
                          obtain ⟨g0, g1, g2, g3, g4, g5, g6, g7, gf, gl12⟩ := nd8 p12.out
                          have B12 := Lib.hid (below_over B11.out (by omega) hb12)
                          have r12 := Lib.hid (own_kept r11.out hlt5.out hb12)
                          replace hO12 := Lib.hid hO12
                          clear hb12)
  obtain ⟨W13, hW13, p13, q13, B13, r13, t13⟩ : ∃ W13, w12.setCell ⟨w.heap.size, 5, none⟩ (.slice (some ⟨gS, 0, none⟩) 0 cS) = W13 ∧ W13.heap[w.heap.size]? = some (NdO (.slice aA 1 cA) (.slice (some ⟨gS, 0, none⟩) 0 cS)) ∧ W13.heap[w.heap.size + 1]? = some NdZ ∧ Below w.heap.size w W13 ∧ W13.ownsRow W7.heap.size 25 2 (.slice aA 1 cA) 1 (afC [(oT, 5)]) ∧ W13.ownsRow m5 46 3 (.slice (some ⟨gS, 0, none⟩) 0 cS) 0 (suC []) :=
    ⟨_, rfl, obj_set (i := 5) p12.out _, (Below.heap_setCell _ _ _ _ (by show w.heap.size + 1 ≠ w.heap.size; omega)).trans q12.out, B12.out.setCell (p := ⟨w.heap.size, 5, none⟩) (Nat.le_refl _) _, owns_hx r12.out fun g hg => Below.heap_setCell _ _ _ _ (by show g ≠ w.heap.size; omega), owns_hx hO12.out fun g hg => Below.heap_setCell _ _ _ _ (by show g ≠ w.heap.size; omega)⟩
  rw [hW13]
  clear f0 f1 f2 f3 f4 f5 f6 f7 ff fl k0 k1 k2 kf kl g0 g1 g2 g3 g4 g5 g6 g7 gf gl12 p12 q12 B12 r12 hO12 p11 q11 s11 B11 r11
  obtain ⟨f0, f1, f2, f3, f4, f5, f6, f7, ff, fl⟩ := nd8 p13
  obtain ⟨g0, g1, g2, g3, g4, g5, g6, g7, gf, gl⟩ := nd8 q13
  replace p13 := Lib.hid p13
  replace q13 := Lib.hid q13
  replace B13 := Lib.hid B13
  replace r13 := Lib.hid r13
  replace t13 := Lib.hid t13
  go_wp2_with fail
  refine bodyPost_ret (v := .tuple #[NdV (.slice aA 1 cA) (.slice (some ⟨gS, 0, none⟩) 0 cS), .int .i64 0]) (results_cell2 (ad := ⟨w.heap.size + 1, 0, none⟩) Try.results5 rfl (load8 (put8_obj q13.out) rfl) rfl) rfl ⟨_, _, rfl, ⟨.inl rfl, .inl rfl, ?_, ?_⟩, ?_⟩
  · exact owns_dox (owns_hx (base := W7.heap.size) r13.out fun g hg => put8_other (b := w.heap.size + 1) (by omega)) (by omega)
  · exact owns_dox (owns_hx (base := m5) t13.out fun g hg => put8_other (b := w.heap.size + 1) (by omega)) (by omega)
  · exact put8_below (b := w.heap.size + 1) B13.out (by omega)
end Go.Proofs.Ytoijpjmkjhoiaaa
