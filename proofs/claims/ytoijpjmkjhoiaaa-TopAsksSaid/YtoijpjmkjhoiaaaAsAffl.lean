/-
  Somebody is cast out (node.Affiliate), with a subscription or without. Condition: the nodes of TopAsks.
-/
import Derived.Test.YtoijpjmkjhoiaaaAsDec
namespace Go.Proofs.Ytoijpjmkjhoiaaa
set_option linter.unusedVariables false
set_option linter.unusedSimpArgs false
open Go.RowKit Go.MapKept Go.Shelf
theorem own_kept1 {w w' : World} {base m g : Nat} {e : TypeId} {size : Nat} {v : Value} {n : Nat} {xs : List Value} (h : w.ownsRow base e size v n xs) (hm : m ≤ base) (hg : g < m) (hb : w.grownBy w' (some g)) : w'.ownsRow base e size v n xs := by
  refine ⟨h.1, ?_⟩
  rcases h.2 with h2 | ⟨k, cap, cur, rfl, h2, h3, h4⟩
  · exact .inl h2
  · exact .inr ⟨k, cap, cur, rfl, h2, (hb.block k (Array.getElem?_eq_some_iff.1 h3).1 (fun e => by injection e; omega)).trans h3, h4⟩
theorem own_apart {w : World} {b1 b2 : Nat} {e1 e2 : TypeId} {s1 s2 : Nat} {v1 v2 : Value} {n1 n2 : Nat} {x1 x2 : List Value} (h1 : w.ownsRow b1 e1 s1 v1 n1 x1) (h2 : w.ownsRow b2 e2 s2 v2 n2 x2) (he : e1 ≠ e2) (r : Nat) (hr : v1.ownBlock = some r) : v2.ownBlock ≠ some r := by
  intro h
  rcases h1.2 with ⟨rfl, -⟩ | ⟨g, cap, cur, rfl, -, hg, -⟩
  · cases hr
  · rcases h2.2 with ⟨rfl, -⟩ | ⟨g', cap', cur', rfl, -, hg', -⟩
    · cases h
    · have e1 : g = r := by injection hr
      have e2 : g' = r := by injection h
      subst e1 e2
      rw [hg] at hg'
      injection hg' with hg'
      injection hg' with _ h _
      exact he h
theorem own_rowk {w w' : World} {b : Nat} {e : TypeId} {s : Nat} {v : Value} {n : Nat} {xs : List Value} {row : Option Nat} (h : w.ownsRow b e s v n xs) (hg : w.grownBy w' row) (hne : ∀ r, v.ownBlock = some r → row ≠ some r) : w'.ownsRow b e s v n xs := by
  refine ⟨h.1, ?_⟩
  rcases h.2 with h2 | ⟨g, cap, cur, rfl, h2, h3, h4⟩
  · exact .inl h2
  · exact .inr ⟨g, cap, cur, rfl, h2, (hg.block g (Array.getElem?_eq_some_iff.1 h3).1 (fun e => hne g rfl e.symm)).trans h3, h4⟩
theorem below_of_grown {w W w' : World} {g : Nat} (h : Below w.heap.size w W) (hg : w.heap.size ≤ g) (hb : W.grownBy w' (some g)) : Below w.heap.size w w' :=
  ⟨hb.os.trans h.os, hb.tape.trans h.tape, hb.output.trans h.output, Nat.le_trans h.size hb.size, fun k hk => (hb.block k (Nat.lt_of_lt_of_le hk h.size) (fun e => by injection e; omega)).trans (h.block k hk)⟩
theorem obj_grown {W w' : World} {b g : Nat} {o : Obj} (h : W.heap[b]? = some o) (hb : W.grownBy w' (some g)) (hne : b ≠ g) : w'.heap[b]? = some o := (hb.block b (Array.getElem?_eq_some_iff.1 h).1 (fun e => by injection e; exact hne (by assumption))).trans h
theorem owns_cap {w : World} {base : Nat} {e : TypeId} {size n c : Nat} {a : Option Addr} {xs : List Value} (h : w.ownsRow base e size (.slice a n c) n xs) : c ≤ maxLen := by
  rcases h.2 with ⟨hv, h0⟩ | ⟨g, cap, cur, hv, _, _, _, h1, _⟩
  · injection hv with _ _ h3
    rw [h3]; decide
  · injection hv with _ _ h3
    omega
set_option maxRecDepth 100000 in
set_option maxHeartbeats 4000000 in
theorem affil_sub (base : Nat) (w : World) (av sv : Value) (h : NdAt [(oT, 5)] [(sT, false, 0)] base w av sv) :
    Calls Try.prog 8 #[NdV av sv, .string ⟨oT.toArray⟩, .string ⟨sT.toArray⟩, .int .u8 1] w fun e w' => ∃ av' sv', e = .returned (.tuple #[NdV av' sv', .int .i64 0]) ∧ NdAt [(oT, 5), (sT, 1)] [] w.heap.size w' av' sv' ∧ Below w.heap.size w w' := by
  obtain ⟨⟨a, c, hav⟩, ⟨a', c', hsv⟩⟩ := h.shape
  subst hav hsv
  obtain ⟨w2, hw2, ho1, ho2, hB2, hs2⟩ := two_boxes w (.slice a 1 c) (.slice a' 1 c')
  have hOn := Lib.hid (fun W (hW : Below w.heap.size w W) => ownerT_any (h.below hW) oT)
  have hAd := Lib.hid addrS_any
  have hOw := Lib.hid (fun W (hW : Below w.heap.size w W) => own_any [110] [] false 1 3 _ _ [(oT, 5)] [(sT, false, 0)] base base W (h.below hW).2.2.1 (h.below hW).2.2.2 (by decide) (by decide))
  rw [show (if roleN (ndA [(oT, 5)] [(sT, false, 0)]) oT = 5 then (0 : Int) else 3) = 0 by decide] at hOn
  obtain ⟨c0, c1, c2, c3, c4, c5, c6, c7, cf, cl⟩ := nd8 ho1
  obtain ⟨z0, z1, z2, z3, z4, z5, z6, z7, zf, zl⟩ := nd8 ho2
  have hs3 : w.heap.size + 1 < w2.heap.size := by omega
  replace ho1 := Lib.hid ho1
  replace ho2 := Lib.hid ho2
  replace hB2 := Lib.hid hB2
  replace hs2 := Lib.hid hs2
  replace h := Lib.hid h
  go_enter Try.func8, Try.ntmps8
  go_upto_region 6 with (first
    | (go_at_call 10; refine (hAd.out _).mono ?_; rintro e w6 ⟨rfl, hb6⟩
       have p6 := Lib.hid (obj_below p5.out hb6)
       have q6 := Lib.hid (obj_below q5.out hb6)
       obtain ⟨g0, g1, g2, g3, g4, g5, g6, g7, gf, gl⟩ := nd8 p6.out
       have B6 := Lib.hid (belowT B5.out hb6))
    | (go_at_call 17; refine (hOn.out _ hB2.out).mono ?_; rintro e w5 ⟨rfl, hb5⟩
       have p5 := Lib.hid (obj_below ho1.out hb5)
       have q5 := Lib.hid (obj_below ho2.out hb5)
       have B5 := Lib.hid (belowT hB2.out hb5)))
  have hw6 : w.heap.size + 1 < w6.heap.size := (Array.getElem?_eq_some_iff.1 q6.out).1
  clear c0 c1 c2 c3 c4 c5 c6 c7 cf cl z0 z1 z2 z3 z4 z5 z6 z7 zf zl p5 q5 hw2 hs3
  go_upto_region 9 with (go_at_call 14; refine (hOw.out _ B6.out).mono ?_; rintro e w10 ⟨av', sv', rfl, rA, ⟨m5, hm5, rS, hlt5⟩, hb10, -⟩
                         have p10 := Lib.hid (obj_below p6.out hb10)
                         have q10 := Lib.hid (obj_below q6.out hb10)
                         obtain ⟨gA, cA, hvA, hgA, hgAl⟩ := owns_hdx rA (by decide)
                         obtain ⟨gS, cS, hvS, hgS, hgSl⟩ := owns_hdx rS (by decide)
                         subst hvS hvA
                         obtain ⟨j0, j1, j2, j3, j4, j5, j6, j7, jf, jl10⟩ := nd8 p10.out
                         have B10 := Lib.hid (belowT B6.out hb10)
                         have r10 := Lib.hid rA
                         have t10 := Lib.hid rS
                         have hgA5 : gA < m5 := hlt5 gA rfl
                         clear rA rS hlt5)
  obtain ⟨W8, hW8, p8, q8, B8, r8, t8⟩ : ∃ W8, put8 w10 w.heap.size (.string ⟨#[110]⟩) (.bool false) (.int .u8 1) (.int .i64 3) (.slice (some ⟨gA, 0, none⟩) 1 cA) (.slice (some ⟨gS, 0, none⟩) 1 cS) (.slice none 0 0) (.string ⟨#[]⟩) = W8 ∧ W8.heap[w.heap.size]? = some (NdO (.slice (some ⟨gA, 0, none⟩) 1 cA) (.slice (some ⟨gS, 0, none⟩) 1 cS)) ∧ W8.heap[w.heap.size + 1]? = some NdZ ∧ Below w.heap.size w W8 ∧ W8.ownsRow w6.heap.size 25 2 (.slice (some ⟨gA, 0, none⟩) 1 cA) 1 (afC [(oT, 5)]) ∧ W8.ownsRow m5 46 3 (.slice (some ⟨gS, 0, none⟩) 1 cS) 1 (suC [(sT, false, 0)]) :=
    ⟨_, rfl, put8_obj p10.out, (put8_other (by omega)).trans q10.out, put8_below B10.out (Nat.le_refl _), owns_hx r10.out fun g hg => put8_other (by omega), owns_hx t10.out fun g hg => put8_other (by omega)⟩
  unfold put8 at hW8
  rw [hW8]
  clear g0 g1 g2 g3 g4 g5 g6 g7 gf j0 j1 j2 j3 j4 j5 j6 j7 jf jl10 p10 q10 B10 r10 p6 q6 t10 hW8
  have hSt := Lib.hid (setAff2_any oT sT 5 1 gA cA w6.heap.size W8 (by decide +kernel) r8)
  obtain ⟨f0, f1, f2, f3, f4, f5, f6, f7, ff, fl⟩ := nd8 p8
  replace p8 := Lib.hid p8
  replace q8 := Lib.hid q8
  replace B8 := Lib.hid B8
  replace r8 := Lib.hid r8
  replace t8 := Lib.hid t8
  go_upto_region 10 with (go_at_call 22; refine hSt.out.mono ?_; rintro e w12 ⟨v12, rfl, hO12, -, hG12⟩
                          have p12 := Lib.hid (obj_grown p8.out hG12 (by omega))
                          have q12 := Lib.hid (obj_grown q8.out hG12 (by omega))
                          obtain ⟨aX, cX, rfl⟩ := owns_vw hO12
                          obtain ⟨g0, g1, g2, g3, g4, g5, g6, g7, gf, gl12⟩ := nd8 p12.out
                          have B12 := Lib.hid (below_of_grown B8.out (by omega) hG12)
                          have t12 := Lib.hid (own_kept1 t8.out (Nat.le_refl _) hgA5 hG12)
                          replace hO12 := Lib.hid hO12
                          clear hG12)
  obtain ⟨W11, hW11, p11, q11, B11, r11, t11⟩ : ∃ W11, w12.setCell ⟨w.heap.size, 4, none⟩ (.slice aX 2 cX) = W11 ∧ W11.heap[w.heap.size]? = some (NdO (.slice aX 2 cX) (.slice (some ⟨gS, 0, none⟩) 1 cS)) ∧ W11.heap[w.heap.size + 1]? = some NdZ ∧ Below w.heap.size w W11 ∧ W11.ownsRow w6.heap.size 25 2 (.slice aX 2 cX) 2 (afC [(oT, 5), (sT, 1)]) ∧ W11.ownsRow m5 46 3 (.slice (some ⟨gS, 0, none⟩) 1 cS) 1 (suC [(sT, false, 0)]) :=
    ⟨_, rfl, obj_set (i := 4) p12.out _, (Below.heap_setCell _ _ _ _ (by show w.heap.size + 1 ≠ w.heap.size; omega)).trans q12.out, B12.out.setCell (p := ⟨w.heap.size, 4, none⟩) (Nat.le_refl _) _, owns_hx hO12.out fun g hg => Below.heap_setCell _ _ _ _ (by show g ≠ w.heap.size; omega), owns_hx t12.out fun g hg => Below.heap_setCell _ _ _ _ (by show g ≠ w.heap.size; omega)⟩
  rw [hW11]
  have hCo := Lib.hid (ownerIn_any _ [(oT, 5), (sT, 1)] W11 (owns_afs r11) (by decide))
  rw [show ([(oT, 5), (sT, 1)].any fun e : Tx × Nat => (e.2 : Int) == 5) = true by decide] at hCo
  clear f0 f1 f2 f3 f4 f5 f6 f7 ff fl g0 g1 g2 g3 g4 g5 g6 g7 gf gl12 p12 q12 B12 t12 hO12 p8 q8 B8 r8 t8 hW11
  obtain ⟨f0, f1, f2, f3, f4, f5, f6, f7, ff, fl⟩ := nd8 p11
  replace p11 := Lib.hid p11
  replace q11 := Lib.hid q11
  replace B11 := Lib.hid B11
  replace r11 := Lib.hid r11
  replace t11 := Lib.hid t11
  go_upto_region 15 with (go_at_call 23; refine hCo.out.mono ?_; rintro e W13 ⟨rfl, hb13⟩
                          have p13 := Lib.hid (obj_below p11.out hb13)
                          have q13 := Lib.hid (obj_below q11.out hb13)
                          obtain ⟨g0, g1, g2, g3, g4, g5, g6, g7, gf, gl13⟩ := nd8 p13.out
                          have B13 := Lib.hid (belowT B11.out hb13)
                          have r13 := Lib.hid (owns_kb r11.out hb13)
                          have t13 := owns_kb t11.out hb13
                          clear hb13)
  have hDr := Lib.hid (dropSub1x_any sT false 0 gS cS m5 W13 t13)
  replace t13 := Lib.hid t13
  go_upto_region 16 with (go_at_call 18; refine hDr.out.mono ?_; rintro e w14 ⟨rfl, hO14, -, hb14⟩
                          have p14 := Lib.hid (obj_grown p13.out hb14 (by omega))
                          have q14 := Lib.hid (obj_grown q13.out hb14 (by omega))
                          obtain ⟨j0, j1, j2, j3, j4, j5, j6, j7, jf, jl14⟩ := nd8 p14.out
                          have B14 := Lib.hid (below_of_grown B13.out (by omega) hb14)
                          have r14 := Lib.hid (own_rowk r13.out hb14 (fun r hr => own_apart r13.out t13.out (by decide) r hr))
                          have t14 := Lib.hid hO14
                          clear hb14)
  obtain ⟨W15, hW15, p15, q15, B15, r15, t15⟩ : ∃ W15, w14.setCell ⟨w.heap.size, 5, none⟩ (.slice (some ⟨gS, 0, none⟩) 0 cS) = W15 ∧ W15.heap[w.heap.size]? = some (NdO (.slice aX 2 cX) (.slice (some ⟨gS, 0, none⟩) 0 cS)) ∧ W15.heap[w.heap.size + 1]? = some NdZ ∧ Below w.heap.size w W15 ∧ W15.ownsRow w6.heap.size 25 2 (.slice aX 2 cX) 2 (afC [(oT, 5), (sT, 1)]) ∧ W15.ownsRow m5 46 3 (.slice (some ⟨gS, 0, none⟩) 0 cS) 0 (suC []) :=
    ⟨_, rfl, obj_set (i := 5) p14.out _, (Below.heap_setCell _ _ _ _ (by show w.heap.size + 1 ≠ w.heap.size; omega)).trans q14.out, B14.out.setCell (p := ⟨w.heap.size, 5, none⟩) (Nat.le_refl _) _, owns_hx r14.out fun g hg => Below.heap_setCell _ _ _ _ (by show g ≠ w.heap.size; omega), owns_hx t14.out fun g hg => Below.heap_setCell _ _ _ _ (by show g ≠ w.heap.size; omega)⟩
  rw [hW15]
  clear f0 f1 f2 f3 f4 f5 f6 f7 ff fl g0 g1 g2 g3 g4 g5 g6 g7 gf gl13 j0 j1 j2 j3 j4 j5 j6 j7 jf jl14 p14 q14 B14 r14 t14 p13 q13 B13 r13 t13 hW15
  obtain ⟨f0, f1, f2, f3, f4, f5, f6, f7, ff, fl⟩ := nd8 p15
  obtain ⟨g0, g1, g2, g3, g4, g5, g6, g7, gf, gl⟩ := nd8 q15
  replace p15 := Lib.hid p15
  replace q15 := Lib.hid q15
  replace B15 := Lib.hid B15
  replace r15 := Lib.hid r15
  replace t15 := Lib.hid t15
  go_wp2_with fail
  refine bodyPost_ret (v := .tuple #[NdV (.slice aX 2 cX) (.slice (some ⟨gS, 0, none⟩) 0 cS), .int .i64 0]) (results_cell2 (ad := ⟨w.heap.size + 1, 0, none⟩) Try.results8 rfl (load8 (put8_obj q15.out) rfl) rfl) rfl ⟨_, _, rfl, ⟨.inr rfl, .inl rfl, ?_, ?_⟩, ?_⟩
  · exact owns_dox (owns_hx (base := w6.heap.size) r15.out fun g hg => put8_other (b := w.heap.size + 1) (by omega)) (by omega)
  · exact owns_dox (owns_hx (base := m5) t15.out fun g hg => put8_other (b := w.heap.size + 1) (by omega)) (by omega)
  · exact put8_below (b := w.heap.size + 1) B15.out (by omega)
set_option maxRecDepth 100000 in
set_option maxHeartbeats 4000000 in
theorem affil_none (base : Nat) (w : World) (av sv : Value) (h : NdAt [(oT, 5)] [] base w av sv) :
    Calls Try.prog 8 #[NdV av sv, .string ⟨oT.toArray⟩, .string ⟨sT.toArray⟩, .int .u8 1] w fun e w' => ∃ av' sv', e = .returned (.tuple #[NdV av' sv', .int .i64 0]) ∧ NdAt [(oT, 5), (sT, 1)] [] w.heap.size w' av' sv' ∧ Below w.heap.size w w' := by
  obtain ⟨⟨a, c, hav⟩, ⟨a', c', hsv⟩⟩ := h.shape
  subst hav hsv
  obtain ⟨w2, hw2, ho1, ho2, hB2, hs2⟩ := two_boxes w (.slice a 1 c) (.slice a' 0 c')
  have hOn := Lib.hid (fun W (hW : Below w.heap.size w W) => ownerT_any (h.below hW) oT)
  have hAd := Lib.hid addrS_any
  have hOw := Lib.hid (fun W (hW : Below w.heap.size w W) => own_any [110] [] false 1 3 _ _ [(oT, 5)] [] base base W (h.below hW).2.2.1 (h.below hW).2.2.2 (by decide) (by decide))
  rw [show (if roleN (ndA [(oT, 5)] []) oT = 5 then (0 : Int) else 3) = 0 by decide] at hOn
  obtain ⟨c0, c1, c2, c3, c4, c5, c6, c7, cf, cl⟩ := nd8 ho1
  obtain ⟨z0, z1, z2, z3, z4, z5, z6, z7, zf, zl⟩ := nd8 ho2
  have hs3 : w.heap.size + 1 < w2.heap.size := by omega
  replace ho1 := Lib.hid ho1
  replace ho2 := Lib.hid ho2
  replace hB2 := Lib.hid hB2
  replace hs2 := Lib.hid hs2
  replace h := Lib.hid h
  go_enter Try.func8, Try.ntmps8
  go_upto_region 6 with (first
    | (go_at_call 10; refine (hAd.out _).mono ?_; rintro e w6 ⟨rfl, hb6⟩
       have p6 := Lib.hid (obj_below p5.out hb6)
       have q6 := Lib.hid (obj_below q5.out hb6)
       obtain ⟨g0, g1, g2, g3, g4, g5, g6, g7, gf, gl⟩ := nd8 p6.out
       have B6 := Lib.hid (belowT B5.out hb6))
    | (go_at_call 17; refine (hOn.out _ hB2.out).mono ?_; rintro e w5 ⟨rfl, hb5⟩
       have p5 := Lib.hid (obj_below ho1.out hb5)
       have q5 := Lib.hid (obj_below ho2.out hb5)
       have B5 := Lib.hid (belowT hB2.out hb5)))
  have hw6 : w.heap.size + 1 < w6.heap.size := (Array.getElem?_eq_some_iff.1 q6.out).1
  clear c0 c1 c2 c3 c4 c5 c6 c7 cf cl z0 z1 z2 z3 z4 z5 z6 z7 zf zl p5 q5 hw2 hs3
  go_upto_region 9 with (go_at_call 14; refine (hOw.out _ B6.out).mono ?_; rintro e w10 ⟨av', sv', rfl, rA, ⟨m5, hm5, rS, hlt5⟩, hb10, -⟩
                         have p10 := Lib.hid (obj_below p6.out hb10)
                         have q10 := Lib.hid (obj_below q6.out hb10)
                         obtain ⟨gA, cA, hvA, hgA, hgAl⟩ := owns_hdx rA (by decide)
                         obtain ⟨aS, cS, hvS⟩ := owns_vw rS
                         subst hvS hvA
                         obtain ⟨j0, j1, j2, j3, j4, j5, j6, j7, jf, jl10⟩ := nd8 p10.out
                         have B10 := Lib.hid (belowT B6.out hb10)
                         have r10 := Lib.hid rA
                         have t10 := Lib.hid rS
                         have hgA5 : gA < m5 := hlt5 gA rfl
                         clear rA rS hlt5)
  obtain ⟨W8, hW8, p8, q8, B8, r8, t8⟩ : ∃ W8, put8 w10 w.heap.size (.string ⟨#[110]⟩) (.bool false) (.int .u8 1) (.int .i64 3) (.slice (some ⟨gA, 0, none⟩) 1 cA) (.slice aS 0 cS) (.slice none 0 0) (.string ⟨#[]⟩) = W8 ∧ W8.heap[w.heap.size]? = some (NdO (.slice (some ⟨gA, 0, none⟩) 1 cA) (.slice aS 0 cS)) ∧ W8.heap[w.heap.size + 1]? = some NdZ ∧ Below w.heap.size w W8 ∧ W8.ownsRow w6.heap.size 25 2 (.slice (some ⟨gA, 0, none⟩) 1 cA) 1 (afC [(oT, 5)]) ∧ W8.ownsRow m5 46 3 (.slice aS 0 cS) 0 (suC []) :=
    ⟨_, rfl, put8_obj p10.out, (put8_other (by omega)).trans q10.out, put8_below B10.out (Nat.le_refl _), owns_hx r10.out fun g hg => put8_other (by omega), owns_hx t10.out fun g hg => put8_other (by omega)⟩
  unfold put8 at hW8
  rw [hW8]
  clear g0 g1 g2 g3 g4 g5 g6 g7 gf j0 j1 j2 j3 j4 j5 j6 j7 jf jl10 p10 q10 B10 r10 p6 q6 t10 hW8
  have hSt := Lib.hid (setAff2_any oT sT 5 1 gA cA w6.heap.size W8 (by decide +kernel) r8)
  obtain ⟨f0, f1, f2, f3, f4, f5, f6, f7, ff, fl⟩ := nd8 p8
  replace p8 := Lib.hid p8
  replace q8 := Lib.hid q8
  replace B8 := Lib.hid B8
  replace r8 := Lib.hid r8
  replace t8 := Lib.hid t8
  go_upto_region 10 with (go_at_call 22; refine hSt.out.mono ?_; rintro e w12 ⟨v12, rfl, hO12, -, hG12⟩
                          have p12 := Lib.hid (obj_grown p8.out hG12 (by omega))
                          have q12 := Lib.hid (obj_grown q8.out hG12 (by omega))
                          obtain ⟨aX, cX, rfl⟩ := owns_vw hO12
                          obtain ⟨g0, g1, g2, g3, g4, g5, g6, g7, gf, gl12⟩ := nd8 p12.out
                          have B12 := Lib.hid (below_of_grown B8.out (by omega) hG12)
                          have t12 := Lib.hid (own_kept1 t8.out (Nat.le_refl _) hgA5 hG12)
                          replace hO12 := Lib.hid hO12
                          clear hG12)
  obtain ⟨W11, hW11, p11, q11, B11, r11, t11⟩ : ∃ W11, w12.setCell ⟨w.heap.size, 4, none⟩ (.slice aX 2 cX) = W11 ∧ W11.heap[w.heap.size]? = some (NdO (.slice aX 2 cX) (.slice aS 0 cS)) ∧ W11.heap[w.heap.size + 1]? = some NdZ ∧ Below w.heap.size w W11 ∧ W11.ownsRow w6.heap.size 25 2 (.slice aX 2 cX) 2 (afC [(oT, 5), (sT, 1)]) ∧ W11.ownsRow m5 46 3 (.slice aS 0 cS) 0 (suC []) :=
    ⟨_, rfl, obj_set (i := 4) p12.out _, (Below.heap_setCell _ _ _ _ (by show w.heap.size + 1 ≠ w.heap.size; omega)).trans q12.out, B12.out.setCell (p := ⟨w.heap.size, 4, none⟩) (Nat.le_refl _) _, owns_hx hO12.out fun g hg => Below.heap_setCell _ _ _ _ (by show g ≠ w.heap.size; omega), owns_hx t12.out fun g hg => Below.heap_setCell _ _ _ _ (by show g ≠ w.heap.size; omega)⟩
  rw [hW11]
  have hCo := Lib.hid (ownerIn_any _ [(oT, 5), (sT, 1)] W11 (owns_afs r11) (by decide))
  rw [show ([(oT, 5), (sT, 1)].any fun e : Tx × Nat => (e.2 : Int) == 5) = true by decide] at hCo
  clear f0 f1 f2 f3 f4 f5 f6 f7 ff fl g0 g1 g2 g3 g4 g5 g6 g7 gf gl12 p12 q12 B12 t12 hO12 p8 q8 B8 r8 t8 hW11
  obtain ⟨f0, f1, f2, f3, f4, f5, f6, f7, ff, fl⟩ := nd8 p11
  replace p11 := Lib.hid p11
  replace q11 := Lib.hid q11
  replace B11 := Lib.hid B11
  replace r11 := Lib.hid r11
  replace t11 := Lib.hid t11
  go_upto_region 15 with (go_at_call 23; refine hCo.out.mono ?_; rintro e W13 ⟨rfl, hb13⟩
                          have p13 := Lib.hid (obj_below p11.out hb13)
                          have q13 := Lib.hid (obj_below q11.out hb13)
                          obtain ⟨g0, g1, g2, g3, g4, g5, g6, g7, gf, gl13⟩ := nd8 p13.out
                          have B13 := Lib.hid (belowT B11.out hb13)
                          have r13 := Lib.hid (owns_kb r11.out hb13)
                          have t13 := owns_kb t11.out hb13
                          clear hb13)
  have hDr := Lib.hid (dropSub0_any sT aS cS (owns_cap t13) W13)
  replace t13 := Lib.hid t13
  go_upto_region 16 with (go_at_call 18; refine hDr.out.mono ?_; rintro e w14 ⟨rfl, hb14⟩
                          have p14 := Lib.hid (obj_below p13.out hb14)
                          have q14 := Lib.hid (obj_below q13.out hb14)
                          obtain ⟨j0, j1, j2, j3, j4, j5, j6, j7, jf, jl14⟩ := nd8 p14.out
                          have B14 := Lib.hid (belowT B13.out hb14)
                          have r14 := Lib.hid (owns_kb r13.out hb14)
                          have t14 := Lib.hid (owns_kb t13.out hb14)
                          clear hb14)
  obtain ⟨W15, hW15, p15, q15, B15, r15, t15⟩ : ∃ W15, w14.setCell ⟨w.heap.size, 5, none⟩ (.slice aS 0 cS) = W15 ∧ W15.heap[w.heap.size]? = some (NdO (.slice aX 2 cX) (.slice aS 0 cS)) ∧ W15.heap[w.heap.size + 1]? = some NdZ ∧ Below w.heap.size w W15 ∧ W15.ownsRow w6.heap.size 25 2 (.slice aX 2 cX) 2 (afC [(oT, 5), (sT, 1)]) ∧ W15.ownsRow m5 46 3 (.slice aS 0 cS) 0 (suC []) :=
    ⟨_, rfl, obj_set (i := 5) p14.out _, (Below.heap_setCell _ _ _ _ (by show w.heap.size + 1 ≠ w.heap.size; omega)).trans q14.out, B14.out.setCell (p := ⟨w.heap.size, 5, none⟩) (Nat.le_refl _) _, owns_hx r14.out fun g hg => Below.heap_setCell _ _ _ _ (by show g ≠ w.heap.size; omega), owns_hx t14.out fun g hg => Below.heap_setCell _ _ _ _ (by show g ≠ w.heap.size; omega)⟩
  rw [hW15]
  clear f0 f1 f2 f3 f4 f5 f6 f7 ff fl g0 g1 g2 g3 g4 g5 g6 g7 gf gl13 j0 j1 j2 j3 j4 j5 j6 j7 jf jl14 p14 q14 B14 r14 t14 p13 q13 B13 r13 t13 hW15
  obtain ⟨f0, f1, f2, f3, f4, f5, f6, f7, ff, fl⟩ := nd8 p15
  obtain ⟨g0, g1, g2, g3, g4, g5, g6, g7, gf, gl⟩ := nd8 q15
  replace p15 := Lib.hid p15
  replace q15 := Lib.hid q15
  replace B15 := Lib.hid B15
  replace r15 := Lib.hid r15
  replace t15 := Lib.hid t15
  go_wp2_with fail
  refine bodyPost_ret (v := .tuple #[NdV (.slice aX 2 cX) (.slice aS 0 cS), .int .i64 0]) (results_cell2 (ad := ⟨w.heap.size + 1, 0, none⟩) Try.results8 rfl (load8 (put8_obj q15.out) rfl) rfl) rfl ⟨_, _, rfl, ⟨.inr rfl, .inl rfl, ?_, ?_⟩, ?_⟩
  · exact owns_dox (owns_hx (base := w6.heap.size) r15.out fun g hg => put8_other (b := w.heap.size + 1) (by omega)) (by omega)
  · exact owns_dox (owns_hx (base := m5) t15.out fun g hg => put8_other (b := w.heap.size + 1) (by omega)) (by omega)
  · exact put8_below (b := w.heap.size + 1) B15.out (by omega)
end Go.Proofs.Ytoijpjmkjhoiaaa
