/-
  Who subscribes (node.Subscribe): for the first time; while they wait; when they are cast out. Condition: the nodes of TopAsks.
-/
import Derived.Test.YtoijpjmkjhoiaaaAsNode
namespace Go.Proofs.Ytoijpjmkjhoiaaa
set_option linter.unusedVariables false
set_option linter.unusedSimpArgs false
open Go.RowKit Go.MapKept Go.Shelf
theorem addrS_any (w : World) : Calls Try.prog 10 #[.string ⟨sT.toArray⟩] w fun e w' => e = .returned (.bool true) ∧ Below w.heap.size w w' := by
  have := address_any sT w (by decide)
  rwa [show addrP sT = true by decide +kernel] at this
theorem two_boxes (w : World) (av sv : Value) : ∃ w2, (w.alloc (NdO av sv)).alloc NdZ = w2 ∧ w2.heap[w.heap.size]? = some (NdO av sv) ∧ w2.heap[w.heap.size + 1]? = some NdZ ∧ Below w.heap.size w w2 ∧ w2.heap.size = w.heap.size + 2 := by
  refine ⟨_, rfl, obj_alloc (heap_alloc w _).1, ?_, belowA (below1 w _) _, by simp⟩
  have := bare_nd (w.alloc (NdO av sv)) NdZ
  rwa [World.size_alloc] at this
theorem results_cell2 {P : Program} {fn : Func} {tmps : Array Value} {w : World} {a b : Tmp} {t : TypeId} {ad : Addr} {v u : Value} (h : fn.results = #[.cell a t, .tmp b]) (hp : tmps.getD a undef = .pointer (some ad)) (hl : (loadVar t ad).run P w = .ok v w) (hb : tmps.getD b undef = u) : (results fn tmps).run P w = .ok (.tuple #[v, u]) w := by
  unfold results
  rw [h]
  have e : (asAddr (tmps.getD a undef)).run P w = .ok ad w := by rw [hp]; rfl
  rw [Array.getD_eq_getD_getElem?] at e hb
  simp [Sem.run_bind, Sem.run_pure, Result.andThen_ok, hl, e, hb]
section
variable {W : World} {b g : Nat} {x0 x1 x2 y0 y1 y2 z : Value} {t : TypeId} {o : Obj}
theorem set4_other (h : g ≠ b) (ho : W.heap[g]? = some o) : ((((W.setCell ⟨b, 0, none⟩ y0).setCell ⟨b, 1, none⟩ y1).setCell ⟨b, 2, none⟩ z).setCell ⟨b, 2, none⟩ y2).heap[g]? = some o := by
  have st : ∀ (V : World) (i : Nat) (v : Value), (V.setCell ⟨b, i, none⟩ v).heap[g]? = V.heap[g]? := fun V i v => Below.heap_setCell _ _ _ _ h
  simp only [st]; exact ho
theorem set4_obj (ho : W.heap[b]? = some (.cells #[x0, x1, x2] t)) : ((((W.setCell ⟨b, 0, none⟩ y0).setCell ⟨b, 1, none⟩ y1).setCell ⟨b, 2, none⟩ z).setCell ⟨b, 2, none⟩ y2).heap[b]? = some (.cells #[y0, y1, y2] t) := by
  have h0 := obj_set (i := 0) ho y0
  simp only [List.setIfInBounds_toArray, List.set_cons_zero, List.set_cons_succ] at h0
  have h1 := obj_set (i := 1) h0 y1
  simp only [List.setIfInBounds_toArray, List.set_cons_zero, List.set_cons_succ] at h1
  have h2 := obj_set (i := 2) h1 z
  simp only [List.setIfInBounds_toArray, List.set_cons_zero, List.set_cons_succ] at h2
  have h3 := obj_set (i := 2) h2 y2
  simp only [List.setIfInBounds_toArray, List.set_cons_zero, List.set_cons_succ] at h3
  exact h3
theorem set4_below {w : World} (h : Below w.heap.size w W) (hb : w.heap.size ≤ b) : Below w.heap.size w ((((W.setCell ⟨b, 0, none⟩ y0).setCell ⟨b, 1, none⟩ y1).setCell ⟨b, 2, none⟩ z).setCell ⟨b, 2, none⟩ y2) := by
  have st : ∀ (V : World) (i : Nat) (v : Value), Below w.heap.size w V → Below w.heap.size w (V.setCell ⟨b, i, none⟩ v) := fun V i v hV => hV.setCell (p := ⟨b, i, none⟩) hb v
  exact st _ _ _ (st _ _ _ (st _ _ _ (st _ _ _ h)))
end
set_option maxRecDepth 100000 in
set_option maxHeartbeats 4000000 in
theorem sub_first (base : Nat) (w : World) (av : Value) (h : NdAt [(oT, 5)] [] base w av (.slice none 0 0)) :
    Calls Try.prog 4 #[NdV av (.slice none 0 0), .string ⟨sT.toArray⟩, .int .i64 0] w fun e w' => ∃ av' sv', e = .returned (.tuple #[NdV av' sv', .int .i64 0]) ∧ NdAt [(oT, 5)] [(sT, true, 0)] w.heap.size w' av' sv' ∧ Below w.heap.size w w' := by
  obtain ⟨⟨a, c, hav⟩, -⟩ := h.shape
  subst hav
  obtain ⟨w2, hw2, ho1, ho2, hB2, hs2⟩ := two_boxes w (.slice a 1 c) (.slice none 0 0)
  have hRt := Lib.hid (fun W (hW : Below w.heap.size w W) => rightT_any (h.below hW))
  have hRo := Lib.hid (fun W (hW : Below w.heap.size w W) => roleT_any (h.below hW) sT)
  have hSu := Lib.hid (fun W (hW : Below w.heap.size w W) => subT_any (h.below hW) sT)
  have hOw := Lib.hid (fun W (hW : Below w.heap.size w W) => own_any [110] [] false 1 3 _ _ [(oT, 5)] [] base base W (h.below hW).2.2.1 (h.below hW).2.2.2 (by decide) (by decide))
  have hSt := Lib.hid (fun W => setSub0_any (sT, true, 0) W)
  have hAd := Lib.hid addrS_any
  rw [show roleN (ndA [(oT, 5)] []) sT = 2 by decide] at hRo
  rw [show subN (ndA [(oT, 5)] []) sT = none by decide] at hSu
  obtain ⟨c0, c1, c2, c3, c4, c5, c6, c7, cf, cl⟩ := nd8 ho1
  obtain ⟨z0, z1, z2, z3, z4, z5, z6, z7, zf, zl⟩ := nd8 ho2
  replace ho1 := Lib.hid ho1
  replace ho2 := Lib.hid ho2
  replace hB2 := Lib.hid hB2
  replace hs2 := Lib.hid hs2
  replace h := Lib.hid h
  go_enter Try.func4, Try.ntmps4
  have tok := Lib.hid True.intro
  go_upto_region 5 with (first
    | (go_at_call 13; have m0 := tok3; refine (hSu.out _ B5.out).mono ?_; rintro e w6 ⟨⟨x, rfl, -⟩, hb6⟩
       have p6 := Lib.hid (obj_below p5.out hb6)
       have q6 := Lib.hid (obj_below q5.out hb6)
       obtain ⟨f0, f1, f2, f3, f4, f5, f6, f7, ff, fl⟩ := nd8 p6.out
       obtain ⟨g0, g1, g2, g3, g4, g5, g6, g7, gf, gl⟩ := nd8 q6.out
       have B6 := Lib.hid (belowT B5.out hb6))
    | (go_at_call 12; have m0 := tok2; refine (hRo.out _ B4.out).mono ?_; rintro e w5 ⟨rfl, hb5⟩
       have p5 := Lib.hid (obj_below p4.out hb5)
       have q5 := Lib.hid (obj_below q4.out hb5)
       obtain ⟨f0, f1, f2, f3, f4, f5, f6, f7, ff, fl⟩ := nd8 p5.out
       have B5 := Lib.hid (belowT B4.out hb5)
       have tok3 := True.intro)
    | (go_at_call 10; have m0 := tok1; refine (hAd.out _).mono ?_; rintro e w4 ⟨rfl, hb4⟩
       have p4 := Lib.hid (obj_below p3.out hb4)
       have q4 := Lib.hid (obj_below q3.out hb4)
       obtain ⟨f0, f1, f2, f3, f4, f5, f6, f7, ff, fl⟩ := nd8 p4.out
       have B4 := Lib.hid (belowT B3.out hb4)
       have tok2 := True.intro)
    | (go_at_call 9; have m0 := tok.out; refine (hRt.out _ hB2.out).mono ?_; rintro e w3 ⟨rfl, hb3⟩
       have p3 := Lib.hid (obj_below ho1.out hb3)
       have q3 := Lib.hid (obj_below ho2.out hb3)
       obtain ⟨f0, f1, f2, f3, f4, f5, f6, f7, ff, fl⟩ := nd8 p3.out
       have B3 := Lib.hid (belowT hB2.out hb3)
       have tok1 := True.intro))
  obtain ⟨W7, hW7, p7, q7, s7, B7⟩ : ∃ W7, w6.alloc (.cells #[.string ⟨x.1.toArray⟩, .bool x.2.1, .int .i64 x.2.2] 46) = W7 ∧ W7.heap[w.heap.size]? = some (NdO (.slice a 1 c) (.slice none 0 0)) ∧ W7.heap[w.heap.size + 1]? = some NdZ ∧ W7.heap[w6.heap.size]? = some (.cells #[.string ⟨x.1.toArray⟩, .bool x.2.1, .int .i64 x.2.2] 46) ∧ Below w.heap.size w W7 :=
    ⟨_, rfl, obj_alloc p6.out, obj_alloc q6.out, bare_nd _ _, belowA B6.out _⟩
  rw [hW7]
  generalize w6.heap.size = bs at gl s7 ⊢
  clear f0 f1 f2 f3 f4 f5 f6 f7 ff fl g0 g1 g2 g3 g4 g5 g6 g7 gf p6 q6 p5 q5 p4 q4 p3 q3 c0 c1 c2 c3 c4 c5 c6 c7 cf cl z0 z1 z2 z3 z4 z5 z6 z7 zf zl ho1 ho2
  obtain ⟨f0, f1, f2, f3, f4, f5, f6, f7, ff, fl⟩ := nd8 p7
  replace p7 := Lib.hid p7
  replace q7 := Lib.hid q7
  replace s7 := Lib.hid s7
  replace B7 := Lib.hid B7
  go_upto_region 16 with (go_at_call 12; refine (hRo.out _ B7.out).mono ?_; rintro e w8 ⟨rfl, hb8⟩
                          have p8 := Lib.hid (obj_below p7.out hb8)
                          have q8 := Lib.hid (obj_below q7.out hb8)
                          have s8 := Lib.hid (obj_below s7.out hb8)
                          obtain ⟨g0, g1, g2, g3, g4, g5, g6, g7, gf, gl8⟩ := nd8 p8.out
                          obtain ⟨k0, k1, k2, kf, kl⟩ := su3 s8.out
                          have B8 := Lib.hid (belowT B7.out hb8))
  clear f0 f1 f2 f3 f4 f5 f6 f7 ff fl g0 g1 g2 g3 g4 g5 g6 g7 gf gl8 k0 k1 k2 kf kl
  have hbs : w.heap.size + 1 < bs := gl
  obtain ⟨W9, hW9, p9, q9, s9, B9⟩ : ∃ W9, (((w8.setCell ⟨bs, 0, none⟩ (.string ⟨sT.toArray⟩)).setCell ⟨bs, 1, none⟩ (.bool true)).setCell ⟨bs, 2, none⟩ (.int .i64 0)).setCell ⟨bs, 2, none⟩ (.int .i64 0) = W9 ∧ W9.heap[w.heap.size]? = some (NdO (.slice a 1 c) (.slice none 0 0)) ∧ W9.heap[w.heap.size + 1]? = some NdZ ∧ W9.heap[bs]? = some (.cells #[.string ⟨sT.toArray⟩, .bool true, .int .i64 0] 46) ∧ Below w.heap.size w W9 :=
    ⟨_, rfl, set4_other (by omega) p8.out, set4_other (by omega) q8.out, set4_obj s8.out, set4_below B8.out (by omega)⟩
  rw [hW9]
  clear p8 q8 s8 B8 p7 q7 s7 B7
  obtain ⟨f0, f1, f2, f3, f4, f5, f6, f7, ff, fl⟩ := nd8 p9
  replace p9 := Lib.hid p9
  replace q9 := Lib.hid q9
  replace s9 := Lib.hid s9
  replace B9 := Lib.hid B9
  go_upto_region 17 with (go_at_call 14; refine (hOw.out _ B9.out).mono ?_; rintro e w10 ⟨av', sv', rfl, rA, ⟨m5, -, rS, -⟩, hb10, hnil⟩
                          obtain rfl := hnil trivial
                          have p10 := Lib.hid (obj_below p9.out hb10)
                          have q10 := Lib.hid (obj_below q9.out hb10)
                          have s10 := Lib.hid (obj_below s9.out hb10)
                          obtain ⟨aA, cA, rfl⟩ := owns_vw rA
                          obtain ⟨g0, g1, g2, g3, g4, g5, g6, g7, gf, gl10⟩ := nd8 p10.out
                          have B10 := Lib.hid (belowT B9.out hb10)
                          have r10 := Lib.hid rA
                          clear rA rS)
  have hw9 : w.heap.size + 1 < W9.heap.size := (Array.getElem?_eq_some_iff.1 q9.out).1
  obtain ⟨W11, hW11, p11, q11, s11, B11, r11⟩ : ∃ W11, put8 w10 w.heap.size (.string ⟨#[110]⟩) (.bool false) (.int .u8 1) (.int .i64 3) (.slice aA 1 cA) (.slice none 0 0) (.slice none 0 0) (.string ⟨#[]⟩) = W11 ∧ W11.heap[w.heap.size]? = some (NdO (.slice aA 1 cA) (.slice none 0 0)) ∧ W11.heap[w.heap.size + 1]? = some NdZ ∧ W11.heap[bs]? = some (.cells #[.string ⟨sT.toArray⟩, .bool true, .int .i64 0] 46) ∧ Below w.heap.size w W11 ∧ W11.ownsRow W9.heap.size 25 2 (.slice aA 1 cA) 1 (afC [(oT, 5)]) :=
    ⟨_, rfl, put8_obj p10.out, (put8_other (by omega)).trans q10.out, (put8_other (by omega)).trans s10.out, put8_below B10.out (Nat.le_refl _), owns_hx r10.out fun g hg => put8_other (by omega)⟩
  unfold put8 at hW11
  rw [hW11]
  clear f0 f1 f2 f3 f4 f5 f6 f7 ff fl g0 g1 g2 g3 g4 g5 g6 g7 gf gl10 p10 q10 s10 B10 r10 p9 q9 s9 B9
  obtain ⟨f0, f1, f2, f3, f4, f5, f6, f7, ff, fl⟩ := nd8 p11
  obtain ⟨k0, k1, k2, kf, kl⟩ := su3 s11
  replace p11 := Lib.hid p11
  replace q11 := Lib.hid q11
  replace s11 := Lib.hid s11
  replace B11 := Lib.hid B11
  replace r11 := Lib.hid r11
  go_upto_region 18 with (go_at_call 15; refine (hSt.out _).mono ?_; rintro e w12 ⟨v12, rfl, hO12, hb12⟩
                          have p12 := Lib.hid (obj_below p11.out hb12)
                          have q12 := Lib.hid (obj_below q11.out hb12)
                          obtain ⟨aS, cS, rfl⟩ := owns_vw hO12
                          obtain ⟨g0, g1, g2, g3, g4, g5, g6, g7, gf, gl12⟩ := nd8 p12.out
                          have B12 := Lib.hid (belowT B11.out hb12)
                          have r12 := Lib.hid (owns_kb r11.out hb12)
                          have hs12 := hb12.size
                          replace hO12 := Lib.hid hO12
                          clear hb12)
  have hw11 : w.heap.size + 1 < W11.heap.size := (Array.getElem?_eq_some_iff.1 q11.out).1
  obtain ⟨W13, hW13, p13, q13, B13, r13, t13⟩ : ∃ W13, w12.setCell ⟨w.heap.size, 5, none⟩ (.slice aS 1 cS) = W13 ∧ W13.heap[w.heap.size]? = some (NdO (.slice aA 1 cA) (.slice aS 1 cS)) ∧ W13.heap[w.heap.size + 1]? = some NdZ ∧ Below w.heap.size w W13 ∧ W13.ownsRow W9.heap.size 25 2 (.slice aA 1 cA) 1 (afC [(oT, 5)]) ∧ W13.ownsRow W11.heap.size 46 3 (.slice aS 1 cS) 1 (suC [(sT, true, 0)]) :=
    ⟨_, rfl, obj_set (i := 5) p12.out _, (Below.heap_setCell _ _ _ _ (by show w.heap.size + 1 ≠ w.heap.size; omega)).trans q12.out, B12.out.setCell (p := ⟨w.heap.size, 5, none⟩) (Nat.le_refl _) _, owns_hx r12.out fun g hg => Below.heap_setCell _ _ _ _ (by show g ≠ w.heap.size; omega), owns_hx hO12.out fun g hg => Below.heap_setCell _ _ _ _ (by show g ≠ w.heap.size; omega)⟩
  rw [hW13]
  clear f0 f1 f2 f3 f4 f5 f6 f7 ff fl k0 k1 k2 kf kl g0 g1 g2 g3 g4 g5 g6 g7 gf gl12 p12 q12 B12 r12 hO12 p11 q11 s11 B11 r11
  obtain ⟨f0, f1, f2, f3, f4, f5, f6, f7, ff, fl⟩ := nd8 p13
  obtain ⟨g0, g1, g2, g3, g4, g5, g6, g7, gf, gl⟩ := nd8 q13
  replace p13 := Lib.hid p13
  replace q13 := Lib.hid q13
  replace B13 := Lib.hid B13
  replace r13 := Lib.hid r13
  replace t13 := Lib.hid t13
  go_wp2_with fail
  refine bodyPost_ret (v := .tuple #[NdV (.slice aA 1 cA) (.slice aS 1 cS), .int .i64 0]) (results_cell2 (ad := ⟨w.heap.size + 1, 0, none⟩) Try.results4 rfl (load8 (put8_obj q13.out) rfl) rfl) rfl ⟨_, _, rfl, ⟨.inl rfl, .inr ⟨true, rfl⟩, ?_, ?_⟩, ?_⟩
  · exact owns_dox (owns_hx (base := W9.heap.size) r13.out fun g hg => put8_other (b := w.heap.size + 1) (by omega)) (by omega)
  · exact owns_dox (owns_hx (base := W11.heap.size) t13.out fun g hg => put8_other (b := w.heap.size + 1) (by omega)) (by omega)
  · exact put8_below (b := w.heap.size + 1) B13.out (by omega)
theorem loadz {W : World} {b : Nat} (h : W.heap[b]? = some NdZ) : (loadVar 30 ⟨b, 0, none⟩).run Try.prog W = .ok (.agg #[.string ⟨#[]⟩, .bool false, .int .u8 0, .int .i64 0, .slice none 0 0, .slice none 0 0, .slice none 0 0, .string ⟨#[]⟩]) W :=
  load8 (nm := []) (pa := []) (ac := 0) h rfl
set_option maxRecDepth 100000 in
set_option maxHeartbeats 4000000 in
theorem sub_wait (base : Nat) (w : World) (av sv : Value) (h : NdAt [(oT, 5)] [(sT, true, 0)] base w av sv) :
    Calls Try.prog 4 #[NdV av sv, .string ⟨sT.toArray⟩, .int .i64 0] w fun e w' => e = .returned (.tuple #[zeroNd, .int .i64 7]) ∧ Below w.heap.size w w' := by
  obtain ⟨⟨a, c, hav⟩, ⟨a', c', hsv⟩⟩ := h.shape
  subst hav hsv
  obtain ⟨w2, hw2, ho1, ho2, hB2, hs2⟩ := two_boxes w (.slice a 1 c) (.slice a' 1 c')
  have hRt := Lib.hid (fun W (hW : Below w.heap.size w W) => rightT_any (h.below hW))
  have hRo := Lib.hid (fun W (hW : Below w.heap.size w W) => roleT_any (h.below hW) sT)
  have hSu := Lib.hid (fun W (hW : Below w.heap.size w W) => subT_any (h.below hW) sT)
  have hRf := Lib.hid (fun W => refused_any 7 W)
  have hAd := Lib.hid addrS_any
  rw [show roleN (ndA [(oT, 5)] [(sT, true, 0)]) sT = 2 by decide] at hRo
  rw [show subN (ndA [(oT, 5)] [(sT, true, 0)]) sT = some (sT, true, 0) by decide] at hSu
  obtain ⟨c0, c1, c2, c3, c4, c5, c6, c7, cf, cl⟩ := nd8 ho1
  obtain ⟨z0, z1, z2, z3, z4, z5, z6, z7, zf, zl⟩ := nd8 ho2
  replace ho1 := Lib.hid ho1
  replace ho2 := Lib.hid ho2
  replace hB2 := Lib.hid hB2
  replace hs2 := Lib.hid hs2
  replace h := Lib.hid h
  unfold zeroNd at hRf ⊢
  go_enter Try.func4, Try.ntmps4
  have tok := Lib.hid True.intro
  go_upto_region 5 with (first
    | (go_at_call 13; have m0 := tok3; refine (hSu.out _ B5.out).mono ?_; rintro e w6 ⟨⟨x, rfl, hx6⟩, hb6⟩
       obtain rfl := hx6 _ rfl
       clear hx6
       have p6 := Lib.hid (obj_below p5.out hb6)
       have q6 := Lib.hid (obj_below q5.out hb6)
       obtain ⟨f0, f1, f2, f3, f4, f5, f6, f7, ff, fl⟩ := nd8 p6.out
       obtain ⟨g0, g1, g2, g3, g4, g5, g6, g7, gf, gl⟩ := nd8 q6.out
       have B6 := Lib.hid (belowT B5.out hb6))
    | (go_at_call 12; have m0 := tok2; refine (hRo.out _ B4.out).mono ?_; rintro e w5 ⟨rfl, hb5⟩
       have p5 := Lib.hid (obj_below p4.out hb5)
       have q5 := Lib.hid (obj_below q4.out hb5)
       obtain ⟨f0, f1, f2, f3, f4, f5, f6, f7, ff, fl⟩ := nd8 p5.out
       have B5 := Lib.hid (belowT B4.out hb5)
       have tok3 := True.intro)
    | (go_at_call 10; have m0 := tok1; refine (hAd.out _).mono ?_; rintro e w4 ⟨rfl, hb4⟩
       have p4 := Lib.hid (obj_below p3.out hb4)
       have q4 := Lib.hid (obj_below q3.out hb4)
       obtain ⟨f0, f1, f2, f3, f4, f5, f6, f7, ff, fl⟩ := nd8 p4.out
       have B4 := Lib.hid (belowT B3.out hb4)
       have tok2 := True.intro)
    | (go_at_call 9; have m0 := tok.out; refine (hRt.out _ hB2.out).mono ?_; rintro e w3 ⟨rfl, hb3⟩
       have p3 := Lib.hid (obj_below ho1.out hb3)
       have q3 := Lib.hid (obj_below ho2.out hb3)
       obtain ⟨f0, f1, f2, f3, f4, f5, f6, f7, ff, fl⟩ := nd8 p3.out
       have B3 := Lib.hid (belowT hB2.out hb3)
       have tok1 := True.intro))
  obtain ⟨W7, hW7, p7, q7, s7, B7⟩ : ∃ W7, w6.alloc (.cells #[.string ⟨sT.toArray⟩, .bool true, .int .i64 0] 46) = W7 ∧ W7.heap[w.heap.size]? = some (NdO _ _) ∧ W7.heap[w.heap.size + 1]? = some NdZ ∧ W7.heap[w6.heap.size]? = some (.cells #[.string ⟨sT.toArray⟩, .bool true, .int .i64 0] 46) ∧ Below w.heap.size w W7 :=
    ⟨_, rfl, obj_alloc p6.out, obj_alloc q6.out, bare_nd _ _, belowA B6.out _⟩
  rw [hW7]
  generalize w6.heap.size = bs at gl s7 ⊢
  clear f0 f1 f2 f3 f4 f5 f6 f7 ff fl g0 g1 g2 g3 g4 g5 g6 g7 gf p6 q6 p5 q5 p4 q4 p3 q3 c0 c1 c2 c3 c4 c5 c6 c7 cf cl z0 z1 z2 z3 z4 z5 z6 z7 zf zl ho1 ho2
  obtain ⟨f0, f1, f2, f3, f4, f5, f6, f7, ff, fl⟩ := nd8 p7
  replace p7 := Lib.hid p7
  replace q7 := Lib.hid q7
  replace s7 := Lib.hid s7
  replace B7 := Lib.hid B7
  have tokR := Lib.hid True.intro
  go_wp2_with (first
    | (go_at_call 11; refine (hRf.out _).mono ?_; rintro e w9 ⟨rfl, hb9⟩
       have q9 := Lib.hid (obj_below q8.out hb9)
       obtain ⟨k0, k1, k2, k3, k4, k5, k6, k7, kf, kl⟩ := nd8 q9.out
       have B9 := Lib.hid (belowT B8.out hb9))
    | (go_at_call 12; have m0 := tokR.out; refine (hRo.out _ B7.out).mono ?_; rintro e w8 ⟨rfl, hb8⟩
       have p8 := Lib.hid (obj_below p7.out hb8)
       have q8 := Lib.hid (obj_below q7.out hb8)
       have s8 := Lib.hid (obj_below s7.out hb8)
       obtain ⟨g0, g1, g2, g3, g4, g5, g6, g7, gf, gl8⟩ := nd8 p8.out
       obtain ⟨j0, j1, j2, jf, jl⟩ := su3 s8.out
       have B8 := Lib.hid (belowT B7.out hb8)))
  refine bodyPost_ret (v := .tuple #[.agg #[.string ⟨#[]⟩, .bool false, .int .u8 0, .int .i64 0, .slice none 0 0, .slice none 0 0, .slice none 0 0, .string ⟨#[]⟩], .int .i64 7] ) (results_cell2 (ad := ⟨w.heap.size + 1, 0, none⟩) Try.results4 rfl (loadz (put8_obj q9.out)) rfl) rfl ⟨rfl, ?_⟩
  exact put8_below (b := w.heap.size + 1) B9.out (by omega)
set_option maxRecDepth 100000 in
set_option maxHeartbeats 4000000 in
theorem sub_out (base : Nat) (w : World) (av sv : Value) (h : NdAt [(oT, 5), (sT, 1)] [] base w av sv) :
    Calls Try.prog 4 #[NdV av sv, .string ⟨sT.toArray⟩, .int .i64 0] w fun e w' => e = .returned (.tuple #[zeroNd, .int .i64 3]) ∧ Below w.heap.size w w' := by
  obtain ⟨⟨a, c, hav⟩, ⟨a', c', hsv⟩⟩ := h.shape
  subst hav hsv
  obtain ⟨w2, hw2, ho1, ho2, hB2, hs2⟩ := two_boxes w (.slice a 2 c) (.slice a' 0 c')
  have hRt := Lib.hid (fun W (hW : Below w.heap.size w W) => rightT_any (h.below hW))
  have hRo := Lib.hid (fun W (hW : Below w.heap.size w W) => roleT_any (h.below hW) sT)
  have hSu := Lib.hid (fun W (hW : Below w.heap.size w W) => subT_any (h.below hW) sT)
  have hRf := Lib.hid (fun W => refused_any 3 W)
  have hAd := Lib.hid addrS_any
  rw [show roleN (ndA [(oT, 5), (sT, 1)] []) sT = 1 by decide] at hRo
  rw [show subN (ndA [(oT, 5), (sT, 1)] []) sT = none by decide] at hSu
  obtain ⟨c0, c1, c2, c3, c4, c5, c6, c7, cf, cl⟩ := nd8 ho1
  obtain ⟨z0, z1, z2, z3, z4, z5, z6, z7, zf, zl⟩ := nd8 ho2
  replace ho1 := Lib.hid ho1
  replace ho2 := Lib.hid ho2
  replace hB2 := Lib.hid hB2
  replace hs2 := Lib.hid hs2
  replace h := Lib.hid h
  unfold zeroNd at hRf ⊢
  go_enter Try.func4, Try.ntmps4
  have tok := Lib.hid True.intro
  go_upto_region 5 with (first
    | (go_at_call 13; have m0 := tok3; refine (hSu.out _ B5.out).mono ?_; rintro e w6 ⟨⟨x, rfl, -⟩, hb6⟩
       have p6 := Lib.hid (obj_below p5.out hb6)
       have q6 := Lib.hid (obj_below q5.out hb6)
       obtain ⟨f0, f1, f2, f3, f4, f5, f6, f7, ff, fl⟩ := nd8 p6.out
       obtain ⟨g0, g1, g2, g3, g4, g5, g6, g7, gf, gl⟩ := nd8 q6.out
       have B6 := Lib.hid (belowT B5.out hb6))
    | (go_at_call 12; have m0 := tok2; refine (hRo.out _ B4.out).mono ?_; rintro e w5 ⟨rfl, hb5⟩
       have p5 := Lib.hid (obj_below p4.out hb5)
       have q5 := Lib.hid (obj_below q4.out hb5)
       obtain ⟨f0, f1, f2, f3, f4, f5, f6, f7, ff, fl⟩ := nd8 p5.out
       have B5 := Lib.hid (belowT B4.out hb5)
       have tok3 := True.intro)
    | (go_at_call 10; have m0 := tok1; refine (hAd.out _).mono ?_; rintro e w4 ⟨rfl, hb4⟩
       have p4 := Lib.hid (obj_below p3.out hb4)
       have q4 := Lib.hid (obj_below q3.out hb4)
       obtain ⟨f0, f1, f2, f3, f4, f5, f6, f7, ff, fl⟩ := nd8 p4.out
       have B4 := Lib.hid (belowT B3.out hb4)
       have tok2 := True.intro)
    | (go_at_call 9; have m0 := tok.out; refine (hRt.out _ hB2.out).mono ?_; rintro e w3 ⟨rfl, hb3⟩
       have p3 := Lib.hid (obj_below ho1.out hb3)
       have q3 := Lib.hid (obj_below ho2.out hb3)
       obtain ⟨f0, f1, f2, f3, f4, f5, f6, f7, ff, fl⟩ := nd8 p3.out
       have B3 := Lib.hid (belowT hB2.out hb3)
       have tok1 := True.intro))
  obtain ⟨W7, hW7, p7, q7, s7, B7⟩ : ∃ W7, w6.alloc (.cells #[.string ⟨x.1.toArray⟩, .bool x.2.1, .int .i64 x.2.2] 46) = W7 ∧ W7.heap[w.heap.size]? = some (NdO _ _) ∧ W7.heap[w.heap.size + 1]? = some NdZ ∧ W7.heap[w6.heap.size]? = some (.cells #[.string ⟨x.1.toArray⟩, .bool x.2.1, .int .i64 x.2.2] 46) ∧ Below w.heap.size w W7 :=
    ⟨_, rfl, obj_alloc p6.out, obj_alloc q6.out, bare_nd _ _, belowA B6.out _⟩
  rw [hW7]
  generalize w6.heap.size = bs at gl s7 ⊢
  clear f0 f1 f2 f3 f4 f5 f6 f7 ff fl g0 g1 g2 g3 g4 g5 g6 g7 gf p6 q6 p5 q5 p4 q4 p3 q3 c0 c1 c2 c3 c4 c5 c6 c7 cf cl z0 z1 z2 z3 z4 z5 z6 z7 zf zl ho1 ho2
  obtain ⟨f0, f1, f2, f3, f4, f5, f6, f7, ff, fl⟩ := nd8 p7
  replace p7 := Lib.hid p7
  replace q7 := Lib.hid q7
  replace s7 := Lib.hid s7
  replace B7 := Lib.hid B7
  have tokR := Lib.hid True.intro
  go_wp2_with (first
    | (go_at_call 11; refine (hRf.out _).mono ?_; rintro e w9 ⟨rfl, hb9⟩
       have q9 := Lib.hid (obj_below q8.out hb9)
       obtain ⟨k0, k1, k2, k3, k4, k5, k6, k7, kf, kl⟩ := nd8 q9.out
       have B9 := Lib.hid (belowT B8.out hb9))
    | (go_at_call 12; have m0 := tokR.out; refine (hRo.out _ B7.out).mono ?_; rintro e w8 ⟨rfl, hb8⟩
       have p8 := Lib.hid (obj_below p7.out hb8)
       have q8 := Lib.hid (obj_below q7.out hb8)
       have s8 := Lib.hid (obj_below s7.out hb8)
       obtain ⟨g0, g1, g2, g3, g4, g5, g6, g7, gf, gl8⟩ := nd8 p8.out
       obtain ⟨j0, j1, j2, jf, jl⟩ := su3 s8.out
       have B8 := Lib.hid (belowT B7.out hb8)))
  refine bodyPost_ret (v := .tuple #[.agg #[.string ⟨#[]⟩, .bool false, .int .u8 0, .int .i64 0, .slice none 0 0, .slice none 0 0, .slice none 0 0, .string ⟨#[]⟩], .int .i64 3] ) (results_cell2 (ad := ⟨w.heap.size + 1, 0, none⟩) Try.results4 rfl (loadz (put8_obj q9.out)) rfl) rfl ⟨rfl, ?_⟩
  exact put8_below (b := w.heap.size + 1) B9.out (by omega)
end Go.Proofs.Ytoijpjmkjhoiaaa
