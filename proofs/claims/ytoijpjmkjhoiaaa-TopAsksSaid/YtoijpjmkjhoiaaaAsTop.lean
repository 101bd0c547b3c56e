/-
  The walk of TopAsks.
-/
import Derived.Test.YtoijpjmkjhoiaaaAsAffl
import Derived.Test.YtoijpjmkjhoiaaaFnWalk
import Derived.Deep.RegionHeld3
import Derived.Test.YtoijpjmkjhoiaaaOrd
namespace Go.Proofs.Ytoijpjmkjhoiaaa
set_option linter.unusedVariables false
set_option linter.unusedSimpArgs false
open Go.RowKit Go.MapKept Go.Shelf
theorem one_of {L R : List Tx} {x : Tx} (hp : L.Pairwise (fun a b => a < b)) (hm : ∀ y, y ∈ L ↔ y ∈ R) (hR : R = [x]) : L.length = 1 := by
  subst hR
  match L, hp, hm with
  | [], _, hm => have := (hm x).2 (by simp); cases this
  | [a], _, _ => rfl
  | a :: b :: r, hp, hm =>
    have ha := (hm a).1 (by simp)
    have hb := (hm b).1 (by simp)
    simp at ha hb
    have := List.rel_of_pairwise_cons hp (a' := b) (by simp)
    rw [ha, hb] at this
    exact absurd this (List.lt_irrefl _)
theorem none_of {L R : List Tx} (hm : ∀ y, y ∈ L ↔ y ∈ R) (hR : R = []) : L.length = 0 := by
  subst hR
  cases L with
  | nil => rfl
  | cons a r => have := (hm a).1 (by simp); cases this
set_option maxRecDepth 100000 in
theorem fanT_any (af : List (Tx × Nat)) (sb : List (Tx × Bool × Int)) (base : Nat) (w : World) (av sv : Value) (h : NdAt af sb base w av sv) (K : Nat) (R : List Tx) (hR : fanN [ndA af sb] [110] = some R) (hK : (R = [] ∧ K = 0) ∨ (∃ x, R = [x]) ∧ K = 1) :
    Calls Try.prog 7 #[.slice (some ⟨w.heap.size, 0, none⟩) 1 1, .string ⟨[110].toArray⟩] (w.alloc (NdO av sv)) fun e w' => (∃ p c, e = .returned (.slice p K c)) ∧ Below (w.alloc (NdO av sv)).heap.size (w.alloc (NdO av sv)) w' := by
  have h1 := h.below (below1 w (NdO av sv))
  have hal := af_len h.1
  have hsl := sb_len h.2.1
  have hS : NdS (w.alloc (NdO av sv)) (.slice (some ⟨w.heap.size, 0, none⟩) 1 1) [ndA af sb] := by
    refine ⟨_, 1, rfl, Nat.le_refl _, by decide, fun _ => ⟨w.heap.size, 0, rfl, by simp, fun i hi => ?_⟩⟩
    obtain rfl : i = 0 := by simpa using hi
    refine ⟨av, sv, .slice none 0 0, fun j u hu => ?_, owns_afs h1.2.2.1, owns_sus h1.2.2.2, none, 0, 0, rfl⟩
    have hc := (obj_cells (bare_nd w (NdO av sv))).1 j
    rw [show 0 + 0 * 8 + j = j by omega, hc]
    exact hu
  refine (fan_any _ [ndA af sb] [110] _ R hS (by simp) (by decide) (fun n hn => ?_) hR).mono ?_
  · rw [List.mem_singleton.1 hn]
    refine ⟨by simp [ndA], by simp [ndA], by show af.length ≤ 1000; omega, by show sb.length ≤ 1000; omega, fun s hs => ?_⟩
    rcases h.2.1 with e | ⟨p, e⟩
    · have : s ∈ sb := hs
      rw [e] at this; cases this
    · have : s ∈ sb := hs
      rw [e, List.mem_singleton] at this
      subst this
      simp [sT]
  · rintro e w' ⟨v', L, rfl, hT, hp, hm, hb⟩
    have hL : L.length = K := by
      rcases hK with ⟨h, rfl⟩ | ⟨⟨x, h⟩, rfl⟩
      · exact none_of hm h
      · exact one_of hp hm h
    obtain ⟨p, c, rfl, -⟩ := hT
    exact ⟨⟨p, c, by rw [hL]⟩, hb⟩
theorem readsT_any (af : List (Tx × Nat)) (sb : List (Tx × Bool × Int)) (base : Nat) (w : World) (av sv : Value) (h : NdAt af sb base w av sv) (s : Tx) : Calls Try.prog 6 #[NdV av sv, .string ⟨s.toArray⟩] w fun e w' => e = .returned (.bool (readsN (ndA af sb) s)) ∧ Below w.heap.size w w' := by
  have := af_len h.1
  have := sb_len h.2.1
  exact reads_any (ndA af sb) av sv (.slice none 0 0) s w (owns_afs h.2.2.1) (owns_sus h.2.2.2) (by show af.length ≤ 1000; omega) (by show sb.length ≤ 1000; omega)
theorem keep8 {w W w' : World} {B : Nat} {a0 a1 a2 a3 a4 a5 a6 a7 : Value} (h : W.cell? ⟨B, 0, none⟩ = some a0 ∧ W.cell? ⟨B, 1, none⟩ = some a1 ∧ W.cell? ⟨B, 2, none⟩ = some a2 ∧ W.cell? ⟨B, 3, none⟩ = some a3 ∧ W.cell? ⟨B, 4, none⟩ = some a4 ∧ W.cell? ⟨B, 5, none⟩ = some a5 ∧ W.cell? ⟨B, 6, none⟩ = some a6 ∧ W.cell? ⟨B, 7, none⟩ = some a7 ∧ Below w.heap.size w W ∧ B < W.heap.size) (hb : Below W.heap.size W w') :
    w'.cell? ⟨B, 0, none⟩ = some a0 ∧ w'.cell? ⟨B, 1, none⟩ = some a1 ∧ w'.cell? ⟨B, 2, none⟩ = some a2 ∧ w'.cell? ⟨B, 3, none⟩ = some a3 ∧ w'.cell? ⟨B, 4, none⟩ = some a4 ∧ w'.cell? ⟨B, 5, none⟩ = some a5 ∧ w'.cell? ⟨B, 6, none⟩ = some a6 ∧ w'.cell? ⟨B, 7, none⟩ = some a7 ∧ Below w.heap.size w w' ∧ B < w'.heap.size := by
  obtain ⟨h0, h1, h2, h3, h4, h5, h6, h7, h8, h9⟩ := h
  obtain ⟨hc, -⟩ := bat hb B h9
  exact ⟨(hc 0).trans h0, (hc 1).trans h1, (hc 2).trans h2, (hc 3).trans h3, (hc 4).trans h4, (hc 5).trans h5, (hc 6).trans h6, (hc 7).trans h7, belowT h8 hb, Nat.lt_of_lt_of_le h9 hb.size⟩
set_option maxRecDepth 100000 in
set_option maxHeartbeats 4000000 in
theorem asks_true_true (w : World) : Calls Try.prog 3 #[.bool true, .bool true] w fun e w' => e = .returned (.bool true) ∧ Below w.heap.size w w' := by
  have hO1 : NdAt [(oT, 5)] [] w.heap.size ((w.alloc (.cells #[.string ⟨oT.toArray⟩, .int .u8 5] 25)).alloc (NdO (.slice (some ⟨w.heap.size, 0, none⟩) 1 1) (.slice none 0 0))) (.slice (some ⟨w.heap.size, 0, none⟩) 1 1) (.slice none 0 0) :=
    ⟨.inl rfl, .inl rfl, ⟨rfl, .inr ⟨w.heap.size, 1, _, rfl, Nat.le_refl _, obj_alloc (bare_nd w _), Nat.le_refl _, by decide, rfl, rfl⟩⟩, World.ownsRow_nil _ _ _ _⟩
  have hB1 : Below w.heap.size w ((w.alloc (.cells #[.string ⟨oT.toArray⟩, .int .u8 5] 25)).alloc (NdO (.slice (some ⟨w.heap.size, 0, none⟩) 1 1) (.slice none 0 0))) := belowA (below1 w _) _
  replace hO1 := Lib.hid hO1
  replace hB1 := Lib.hid hB1
  have r1 : readsN (ndA [(oT, 5)] [(sT, true, 0)]) sT = false := by decide
  have r2 : readsN (ndA [(oT, 5)] [(sT, false, 0)]) sT = true := by decide
  replace r1 := Lib.hid r1
  replace r2 := Lib.hid r2
  have tok0 := Lib.hid True.intro
  go_enter Try.func3, Try.ntmps3
  go_upto_region 6 with (first
    | (go_at_call 5; have m0 := tok3; have hdn := decide_not _ _ _ _ true hA4.out; unfold zeroNd at hdn; refine hdn.mono ?_; clear hdn; rintro e w5 ⟨rfl, hb5⟩
       have oa5 := Lib.hid (obj_below (obj_alloc oa4.out) hb5)
       have oz5 := Lib.hid (obj_below (obj_alloc oz4.out) hb5)
       have ob5 := Lib.hid (obj_below (bare_nd w4 _) hb5)
       have hA5 := Lib.hid (hA4.out.below hb5)
       have hD5 := Lib.hid (hD4.out.below hb5)
       have B5 := Lib.hid (belowT B4.out hb5)
       have tok4 := True.intro)
    | (go_at_call 5; have m0 := tok2; refine (decide_yes _ _ _ _ hA3.out).mono ?_; rintro e w4 ⟨bv, cv, rfl, hD4, hb4⟩
       obtain ⟨⟨b1, b2, rfl⟩, ⟨b3, b4, rfl⟩⟩ := hD4.shape
       have oa4 := Lib.hid (obj_below (obj_alloc oa3.out) hb4)
       have oz4 := Lib.hid (obj_below (bare_nd w3 _) hb4)
       obtain ⟨f0, f1, f2, f3, f4, f5, f6, f7, ff, fl⟩ := nd8 oa4.out
       have hA4 := Lib.hid ((hA3.out.below hb4).below (below1 w4 (NdO (.slice b1 1 b2) (.slice b3 1 b4))))
       replace hD4 := Lib.hid (hD4.below (below1 w4 (NdO (.slice b1 1 b2) (.slice b3 1 b4))))
       have B4 := Lib.hid (belowA (belowT B3.out hb4) (NdO (.slice b1 1 b2) (.slice b3 1 b4)))
       have tok3 := True.intro)
    | (go_at_call 4; have m0 := tok1; have hsw := sub_wait _ _ _ _ hA2.out; unfold zeroNd at hsw; refine hsw.mono ?_; clear hsw; rintro e w3 ⟨rfl, hb3⟩
       have oa3 := Lib.hid (obj_below (bare_nd w2 _) hb3)
       obtain ⟨f0, f1, f2, f3, f4, f5, f6, f7, ff, fl⟩ := nd8 oa3.out
       have hA3 := Lib.hid ((hA2.out.below hb3).below (below1 w3 NdZ))
       have B3 := Lib.hid (belowA (belowT B2.out hb3) NdZ)
       have tok2 := True.intro)
    | (go_at_call 4; have m0 := tok0.out; refine (sub_first _ _ _ hO1.out).mono ?_; rintro e w2 ⟨av, sv, rfl, hA2, hb2⟩
       obtain ⟨⟨a1, a2, rfl⟩, ⟨a3, a4, rfl⟩⟩ := hA2.shape
       replace hA2 := Lib.hid (hA2.below (below1 w2 (NdO (.slice a1 1 a2) (.slice a3 1 a4))))
       have B2 := Lib.hid (belowA (belowT hB1.out hb2) (NdO (.slice a1 1 a2) (.slice a3 1 a4)))
       have tok1 := True.intro))
  obtain ⟨W6, hW6, oa6, oz6, ob6, hA6, hD6, B6⟩ : ∃ W6, w5.alloc NdZ = W6 ∧ W6.heap[w2.heap.size]? = some (NdO (.slice a1 1 a2) (.slice a3 1 a4)) ∧ W6.heap[w3.heap.size]? = some NdZ ∧ W6.heap[w4.heap.size]? = some (NdO (.slice b1 1 b2) (.slice b3 1 b4)) ∧ NdAt _ _ _ W6 _ _ ∧ NdAt _ _ _ W6 _ _ ∧ Below w.heap.size w W6 :=
    ⟨_, rfl, obj_alloc oa5.out, obj_alloc oz5.out, obj_alloc ob5.out, hA5.out.below (below1 w5 _), hD5.out.below (below1 w5 _), belowA B5.out _⟩
  rw [hW6]
  generalize w2.heap.size = A at oa6 ⊢
  generalize w3.heap.size = Z at oz6 ⊢
  generalize w4.heap.size = Q at ob6 ⊢
  clear f0 f1 f2 f3 f4 f5 f6 f7 ff fl oa5 oz5 ob5 oa4 oz4 oa3 hW6
  obtain ⟨f0, f1, f2, f3, f4, f5, f6, f7, ff, fl⟩ := nd8 oa6
  obtain ⟨g0, g1, g2, g3, g4, g5, g6, g7, gf, gl⟩ := nd8 oz6
  replace oa6 := Lib.hid oa6
  replace oz6 := Lib.hid oz6
  replace ob6 := Lib.hid ob6
  replace B6 := Lib.hid B6
  have hRa := Lib.hid (readsT_any _ _ _ W6 _ _ hA6 sT)
  have hRb := Lib.hid (fun W (hW : Below W6.heap.size W6 W) => readsT_any _ _ _ W _ _ (hD6.below hW) sT)
  rw [r1.out] at hRa
  rw [r2.out] at hRb
  replace hA6 := Lib.hid hA6
  replace hD6 := Lib.hid hD6
  have tok6 := Lib.hid True.intro
  go_upto_region 10 with (first
    | (go_at_call 6; have m0 := tok7; refine (hRb.out _ hb7.out).mono ?_; rintro e w8 ⟨rfl, hb8⟩
       have ob8 := obj_below ob7.out hb8
       have hD8 := Lib.hid (hD7.out.below hb8)
       have B8 := Lib.hid (belowT B7.out hb8))
    | (go_at_call 6; have m0 := tok6.out; refine hRa.out.mono ?_; rintro e w7 ⟨rfl, hb7⟩
       have ob7 := Lib.hid (obj_below ob6.out hb7)
       obtain ⟨j0, j1, j2, j3, j4, j5, j6, j7, jf, jl⟩ := nd8 ob7.out
       have hD7 := Lib.hid (hD6.out.below hb7)
       have B7 := Lib.hid (belowT B6.out hb7)
       replace hb7 := Lib.hid hb7
       have tok7 := True.intro))
  clear f0 f1 f2 f3 f4 f5 f6 f7 ff fl g0 g1 g2 g3 g4 g5 g6 g7 gf gl j0 j1 j2 j3 j4 j5 j6 j7 jf jl
  obtain ⟨f0, f1, f2, f3, f4, f5, f6, f7, ff, fl⟩ := nd8 ob8
  replace ob8 := Lib.hid ob8
  have r3 : readsN (ndA [(oT, 5), (sT, 1)] []) sT = false := by decide
  replace r3 := Lib.hid r3
  go_upto_region 12 with (first
    | (go_at_call 4; have hso := sub_out _ _ _ _ hA9.out; unfold zeroNd at hso; refine hso.mono ?_; clear hso; rintro e w10 ⟨rfl, hb10⟩
       have ox10 := obj_below (bare_nd w9 _) hb10
       have hA10 := Lib.hid (hA9.out.below hb10)
       have B10 := Lib.hid (belowT B9.out hb10))
    | (go_at_call 8; refine (affil_sub _ _ _ _ hD8.out).mono ?_; rintro e w9 ⟨xv, yv, rfl, hA9, hb9⟩
       obtain ⟨⟨x1, x2, rfl⟩, ⟨x3, x4, rfl⟩⟩ := hA9.shape
       replace hA9 := Lib.hid (hA9.below (below1 w9 (NdO (.slice x1 2 x2) (.slice x3 0 x4))))
       have B9 := Lib.hid (belowA (belowT B8.out hb9) (NdO (.slice x1 2 x2) (.slice x3 0 x4)))))
  obtain ⟨W11, hW11, ox11, hA11, B11⟩ : ∃ W11, w10.alloc NdZ = W11 ∧ W11.heap[w9.heap.size]? = some (NdO (.slice x1 2 x2) (.slice x3 0 x4)) ∧ NdAt _ _ _ W11 _ _ ∧ Below w.heap.size w W11 :=
    ⟨_, rfl, obj_alloc ox10, hA10.out.below (below1 w10 _), belowA B10.out _⟩
  rw [hW11]
  generalize w9.heap.size = X at ox11 ⊢
  clear f0 f1 f2 f3 f4 f5 f6 f7 ff fl ox10 hW11
  obtain ⟨f0, f1, f2, f3, f4, f5, f6, f7, ff, fl⟩ := nd8 ox11
  replace ox11 := Lib.hid ox11
  have hRx := Lib.hid (readsT_any _ _ _ W11 _ _ hA11 sT)
  rw [r3.out] at hRx
  have hFx := Lib.hid (fun W (hW : Below W11.heap.size W11 W) => fanT_any _ _ _ W _ _ (hA11.below hW) 0 [] (by decide +kernel) (.inl ⟨rfl, rfl⟩))
  replace hA11 := Lib.hid hA11
  replace B11 := Lib.hid B11
  go_wp2_with (first
    | (go_at_call 7; refine (hFx.out _ hb12.out).mono ?_; rintro e w13 ⟨⟨p, c, rfl⟩, hb13⟩; replace hb13 := Lib.hid hb13)
    | (go_at_call 6; refine hRx.out.mono ?_; rintro e w12 ⟨rfl, hb12⟩
       have ox12 := obj_below ox11.out hb12
       obtain ⟨j0, j1, j2, j3, j4, j5, j6, j7, jf, jl⟩ := nd8 ox12
       have B12 := Lib.hid (belowT B11.out hb12)
       replace hb12 := Lib.hid hb12))
  go_ret
  exact ⟨rfl, belowT B12.out (below1t hb13.out)⟩
set_option maxRecDepth 100000 in
set_option maxHeartbeats 4000000 in
theorem asks_false_true (w : World) : Calls Try.prog 3 #[.bool false, .bool true] w fun e w' => e = .returned (.bool true) ∧ Below w.heap.size w w' := by
  have hO1 : NdAt [(oT, 5)] [] w.heap.size ((w.alloc (.cells #[.string ⟨oT.toArray⟩, .int .u8 5] 25)).alloc (NdO (.slice (some ⟨w.heap.size, 0, none⟩) 1 1) (.slice none 0 0))) (.slice (some ⟨w.heap.size, 0, none⟩) 1 1) (.slice none 0 0) :=
    ⟨.inl rfl, .inl rfl, ⟨rfl, .inr ⟨w.heap.size, 1, _, rfl, Nat.le_refl _, obj_alloc (bare_nd w _), Nat.le_refl _, by decide, rfl, rfl⟩⟩, World.ownsRow_nil _ _ _ _⟩
  have hB1 : Below w.heap.size w ((w.alloc (.cells #[.string ⟨oT.toArray⟩, .int .u8 5] 25)).alloc (NdO (.slice (some ⟨w.heap.size, 0, none⟩) 1 1) (.slice none 0 0))) := belowA (below1 w _) _
  replace hO1 := Lib.hid hO1
  replace hB1 := Lib.hid hB1
  have r1 : readsN (ndA [(oT, 5)] [(sT, true, 0)]) sT = false := by decide
  have r2 : readsN (ndA [(oT, 5)] []) sT = false := by decide
  replace r1 := Lib.hid r1
  replace r2 := Lib.hid r2
  have tok0 := Lib.hid True.intro
  go_enter Try.func3, Try.ntmps3
  go_upto_region 6 with (first
    | (go_at_call 5; have m0 := tok3; have hdn := decide_not _ _ _ _ true hA4.out; unfold zeroNd at hdn; refine hdn.mono ?_; clear hdn; rintro e w5 ⟨rfl, hb5⟩
       have oa5 := Lib.hid (obj_below (obj_alloc oa4.out) hb5)
       have oz5 := Lib.hid (obj_below (obj_alloc oz4.out) hb5)
       have ob5 := Lib.hid (obj_below (bare_nd w4 _) hb5)
       have hA5 := Lib.hid (hA4.out.below hb5)
       have hD5 := Lib.hid (hD4.out.below hb5)
       have B5 := Lib.hid (belowT B4.out hb5)
       have tok4 := True.intro)
    | (go_at_call 5; have m0 := tok2; refine (decide_no _ _ _ _ hA3.out).mono ?_; rintro e w4 ⟨bv, cv, rfl, hD4, hb4⟩
       obtain ⟨⟨b1, b2, rfl⟩, ⟨b3, b4, rfl⟩⟩ := hD4.shape
       have oa4 := Lib.hid (obj_below (obj_alloc oa3.out) hb4)
       have oz4 := Lib.hid (obj_below (bare_nd w3 _) hb4)
       obtain ⟨f0, f1, f2, f3, f4, f5, f6, f7, ff, fl⟩ := nd8 oa4.out
       have hA4 := Lib.hid ((hA3.out.below hb4).below (below1 w4 (NdO (.slice b1 1 b2) (.slice b3 0 b4))))
       replace hD4 := Lib.hid (hD4.below (below1 w4 (NdO (.slice b1 1 b2) (.slice b3 0 b4))))
       have B4 := Lib.hid (belowA (belowT B3.out hb4) (NdO (.slice b1 1 b2) (.slice b3 0 b4)))
       have tok3 := True.intro)
    | (go_at_call 4; have m0 := tok1; have hsw := sub_wait _ _ _ _ hA2.out; unfold zeroNd at hsw; refine hsw.mono ?_; clear hsw; rintro e w3 ⟨rfl, hb3⟩
       have oa3 := Lib.hid (obj_below (bare_nd w2 _) hb3)
       obtain ⟨f0, f1, f2, f3, f4, f5, f6, f7, ff, fl⟩ := nd8 oa3.out
       have hA3 := Lib.hid ((hA2.out.below hb3).below (below1 w3 NdZ))
       have B3 := Lib.hid (belowA (belowT B2.out hb3) NdZ)
       have tok2 := True.intro)
    | (go_at_call 4; have m0 := tok0.out; refine (sub_first _ _ _ hO1.out).mono ?_; rintro e w2 ⟨av, sv, rfl, hA2, hb2⟩
       obtain ⟨⟨a1, a2, rfl⟩, ⟨a3, a4, rfl⟩⟩ := hA2.shape
       replace hA2 := Lib.hid (hA2.below (below1 w2 (NdO (.slice a1 1 a2) (.slice a3 1 a4))))
       have B2 := Lib.hid (belowA (belowT hB1.out hb2) (NdO (.slice a1 1 a2) (.slice a3 1 a4)))
       have tok1 := True.intro))
  obtain ⟨W6, hW6, oa6, oz6, ob6, hA6, hD6, B6⟩ : ∃ W6, w5.alloc NdZ = W6 ∧ W6.heap[w2.heap.size]? = some (NdO (.slice a1 1 a2) (.slice a3 1 a4)) ∧ W6.heap[w3.heap.size]? = some NdZ ∧ W6.heap[w4.heap.size]? = some (NdO (.slice b1 1 b2) (.slice b3 0 b4)) ∧ NdAt _ _ _ W6 _ _ ∧ NdAt _ _ _ W6 _ _ ∧ Below w.heap.size w W6 :=
    ⟨_, rfl, obj_alloc oa5.out, obj_alloc oz5.out, obj_alloc ob5.out, hA5.out.below (below1 w5 _), hD5.out.below (below1 w5 _), belowA B5.out _⟩
  rw [hW6]
  generalize w2.heap.size = A at oa6 ⊢
  generalize w3.heap.size = Z at oz6 ⊢
  generalize w4.heap.size = Q at ob6 ⊢
  clear f0 f1 f2 f3 f4 f5 f6 f7 ff fl oa5 oz5 ob5 oa4 oz4 oa3 hW6
  obtain ⟨f0, f1, f2, f3, f4, f5, f6, f7, ff, fl⟩ := nd8 oa6
  obtain ⟨g0, g1, g2, g3, g4, g5, g6, g7, gf, gl⟩ := nd8 oz6
  replace oa6 := Lib.hid oa6
  replace oz6 := Lib.hid oz6
  replace ob6 := Lib.hid ob6
  replace B6 := Lib.hid B6
  have hRa := Lib.hid (readsT_any _ _ _ W6 _ _ hA6 sT)
  have hRb := Lib.hid (fun W (hW : Below W6.heap.size W6 W) => readsT_any _ _ _ W _ _ (hD6.below hW) sT)
  rw [r1.out] at hRa
  rw [r2.out] at hRb
  replace hA6 := Lib.hid hA6
  replace hD6 := Lib.hid hD6
  have tok6 := Lib.hid True.intro
  go_upto_region 10 with (first
    | (go_at_call 6; have m0 := tok7; refine (hRb.out _ hb7.out).mono ?_; rintro e w8 ⟨rfl, hb8⟩
       have ob8 := obj_below ob7.out hb8
       have hD8 := Lib.hid (hD7.out.below hb8)
       have B8 := Lib.hid (belowT B7.out hb8))
    | (go_at_call 6; have m0 := tok6.out; refine hRa.out.mono ?_; rintro e w7 ⟨rfl, hb7⟩
       have ob7 := Lib.hid (obj_below ob6.out hb7)
       obtain ⟨j0, j1, j2, j3, j4, j5, j6, j7, jf, jl⟩ := nd8 ob7.out
       have hD7 := Lib.hid (hD6.out.below hb7)
       have B7 := Lib.hid (belowT B6.out hb7)
       replace hb7 := Lib.hid hb7
       have tok7 := True.intro))
  clear f0 f1 f2 f3 f4 f5 f6 f7 ff fl g0 g1 g2 g3 g4 g5 g6 g7 gf gl j0 j1 j2 j3 j4 j5 j6 j7 jf jl
  obtain ⟨f0, f1, f2, f3, f4, f5, f6, f7, ff, fl⟩ := nd8 ob8
  replace ob8 := Lib.hid ob8
  have r3 : readsN (ndA [(oT, 5), (sT, 1)] []) sT = false := by decide
  replace r3 := Lib.hid r3
  go_upto_region 12 with (first
    | (go_at_call 4; have hso := sub_out _ _ _ _ hA9.out; unfold zeroNd at hso; refine hso.mono ?_; clear hso; rintro e w10 ⟨rfl, hb10⟩
       have ox10 := obj_below (bare_nd w9 _) hb10
       have hA10 := Lib.hid (hA9.out.below hb10)
       have B10 := Lib.hid (belowT B9.out hb10))
    | (go_at_call 8; refine (affil_none _ _ _ _ hD8.out).mono ?_; rintro e w9 ⟨xv, yv, rfl, hA9, hb9⟩
       obtain ⟨⟨x1, x2, rfl⟩, ⟨x3, x4, rfl⟩⟩ := hA9.shape
       replace hA9 := Lib.hid (hA9.below (below1 w9 (NdO (.slice x1 2 x2) (.slice x3 0 x4))))
       have B9 := Lib.hid (belowA (belowT B8.out hb9) (NdO (.slice x1 2 x2) (.slice x3 0 x4)))))
  obtain ⟨W11, hW11, ox11, hA11, B11⟩ : ∃ W11, w10.alloc NdZ = W11 ∧ W11.heap[w9.heap.size]? = some (NdO (.slice x1 2 x2) (.slice x3 0 x4)) ∧ NdAt _ _ _ W11 _ _ ∧ Below w.heap.size w W11 :=
    ⟨_, rfl, obj_alloc ox10, hA10.out.below (below1 w10 _), belowA B10.out _⟩
  rw [hW11]
  generalize w9.heap.size = X at ox11 ⊢
  clear f0 f1 f2 f3 f4 f5 f6 f7 ff fl ox10 hW11
  obtain ⟨f0, f1, f2, f3, f4, f5, f6, f7, ff, fl⟩ := nd8 ox11
  replace ox11 := Lib.hid ox11
  have hRx := Lib.hid (readsT_any _ _ _ W11 _ _ hA11 sT)
  rw [r3.out] at hRx
  have hFx := Lib.hid (fun W (hW : Below W11.heap.size W11 W) => fanT_any _ _ _ W _ _ (hA11.below hW) 0 [] (by decide +kernel) (.inl ⟨rfl, rfl⟩))
  replace hA11 := Lib.hid hA11
  replace B11 := Lib.hid B11
  go_wp2_with (first
    | (go_at_call 7; refine (hFx.out _ hb12.out).mono ?_; rintro e w13 ⟨⟨p, c, rfl⟩, hb13⟩; replace hb13 := Lib.hid hb13)
    | (go_at_call 6; refine hRx.out.mono ?_; rintro e w12 ⟨rfl, hb12⟩
       have ox12 := obj_below ox11.out hb12
       obtain ⟨j0, j1, j2, j3, j4, j5, j6, j7, jf, jl⟩ := nd8 ox12
       have B12 := Lib.hid (belowT B11.out hb12)
       replace hb12 := Lib.hid hb12))
  go_ret
  exact ⟨rfl, belowT B12.out (below1t hb13.out)⟩
set_option maxRecDepth 100000 in
set_option maxHeartbeats 4000000 in
theorem asks_true_false (w : World) : Calls Try.prog 3 #[.bool true, .bool false] w fun e w' => e = .returned (.bool true) ∧ Below w.heap.size w w' := by
  have hO1 : NdAt [(oT, 5)] [] w.heap.size ((w.alloc (.cells #[.string ⟨oT.toArray⟩, .int .u8 5] 25)).alloc (NdO (.slice (some ⟨w.heap.size, 0, none⟩) 1 1) (.slice none 0 0))) (.slice (some ⟨w.heap.size, 0, none⟩) 1 1) (.slice none 0 0) :=
    ⟨.inl rfl, .inl rfl, ⟨rfl, .inr ⟨w.heap.size, 1, _, rfl, Nat.le_refl _, obj_alloc (bare_nd w _), Nat.le_refl _, by decide, rfl, rfl⟩⟩, World.ownsRow_nil _ _ _ _⟩
  have hB1 : Below w.heap.size w ((w.alloc (.cells #[.string ⟨oT.toArray⟩, .int .u8 5] 25)).alloc (NdO (.slice (some ⟨w.heap.size, 0, none⟩) 1 1) (.slice none 0 0))) := belowA (below1 w _) _
  replace hO1 := Lib.hid hO1
  replace hB1 := Lib.hid hB1
  have r1 : readsN (ndA [(oT, 5)] [(sT, true, 0)]) sT = false := by decide
  have r2 : readsN (ndA [(oT, 5)] [(sT, false, 0)]) sT = true := by decide
  replace r1 := Lib.hid r1
  replace r2 := Lib.hid r2
  have tok0 := Lib.hid True.intro
  go_enter Try.func3, Try.ntmps3
  go_upto_region 6 with (first
    | (go_at_call 5; have m0 := tok3; have hdn := decide_not _ _ _ _ true hA4.out; unfold zeroNd at hdn; refine hdn.mono ?_; clear hdn; rintro e w5 ⟨rfl, hb5⟩
       have oa5 := Lib.hid (obj_below (obj_alloc oa4.out) hb5)
       have oz5 := Lib.hid (obj_below (obj_alloc oz4.out) hb5)
       have ob5 := Lib.hid (obj_below (bare_nd w4 _) hb5)
       have hA5 := Lib.hid (hA4.out.below hb5)
       have hD5 := Lib.hid (hD4.out.below hb5)
       have B5 := Lib.hid (belowT B4.out hb5)
       have tok4 := True.intro)
    | (go_at_call 5; have m0 := tok2; refine (decide_yes _ _ _ _ hA3.out).mono ?_; rintro e w4 ⟨bv, cv, rfl, hD4, hb4⟩
       obtain ⟨⟨b1, b2, rfl⟩, ⟨b3, b4, rfl⟩⟩ := hD4.shape
       have oa4 := Lib.hid (obj_below (obj_alloc oa3.out) hb4)
       have oz4 := Lib.hid (obj_below (bare_nd w3 _) hb4)
       obtain ⟨f0, f1, f2, f3, f4, f5, f6, f7, ff, fl⟩ := nd8 oa4.out
       have hA4 := Lib.hid ((hA3.out.below hb4).below (below1 w4 (NdO (.slice b1 1 b2) (.slice b3 1 b4))))
       replace hD4 := Lib.hid (hD4.below (below1 w4 (NdO (.slice b1 1 b2) (.slice b3 1 b4))))
       have B4 := Lib.hid (belowA (belowT B3.out hb4) (NdO (.slice b1 1 b2) (.slice b3 1 b4)))
       have tok3 := True.intro)
    | (go_at_call 4; have m0 := tok1; have hsw := sub_wait _ _ _ _ hA2.out; unfold zeroNd at hsw; refine hsw.mono ?_; clear hsw; rintro e w3 ⟨rfl, hb3⟩
       have oa3 := Lib.hid (obj_below (bare_nd w2 _) hb3)
       obtain ⟨f0, f1, f2, f3, f4, f5, f6, f7, ff, fl⟩ := nd8 oa3.out
       have hA3 := Lib.hid ((hA2.out.below hb3).below (below1 w3 NdZ))
       have B3 := Lib.hid (belowA (belowT B2.out hb3) NdZ)
       have tok2 := True.intro)
    | (go_at_call 4; have m0 := tok0.out; refine (sub_first _ _ _ hO1.out).mono ?_; rintro e w2 ⟨av, sv, rfl, hA2, hb2⟩
       obtain ⟨⟨a1, a2, rfl⟩, ⟨a3, a4, rfl⟩⟩ := hA2.shape
       replace hA2 := Lib.hid (hA2.below (below1 w2 (NdO (.slice a1 1 a2) (.slice a3 1 a4))))
       have B2 := Lib.hid (belowA (belowT hB1.out hb2) (NdO (.slice a1 1 a2) (.slice a3 1 a4)))
       have tok1 := True.intro))
  obtain ⟨W6, hW6, oa6, oz6, ob6, hA6, hD6, B6⟩ : ∃ W6, w5.alloc NdZ = W6 ∧ W6.heap[w2.heap.size]? = some (NdO (.slice a1 1 a2) (.slice a3 1 a4)) ∧ W6.heap[w3.heap.size]? = some NdZ ∧ W6.heap[w4.heap.size]? = some (NdO (.slice b1 1 b2) (.slice b3 1 b4)) ∧ NdAt _ _ _ W6 _ _ ∧ NdAt _ _ _ W6 _ _ ∧ Below w.heap.size w W6 :=
    ⟨_, rfl, obj_alloc oa5.out, obj_alloc oz5.out, obj_alloc ob5.out, hA5.out.below (below1 w5 _), hD5.out.below (below1 w5 _), belowA B5.out _⟩
  rw [hW6]
  generalize w2.heap.size = A at oa6 ⊢
  generalize w3.heap.size = Z at oz6 ⊢
  generalize w4.heap.size = Q at ob6 ⊢
  clear f0 f1 f2 f3 f4 f5 f6 f7 ff fl oa5 oz5 ob5 oa4 oz4 oa3 hW6
  obtain ⟨f0, f1, f2, f3, f4, f5, f6, f7, ff, fl⟩ := nd8 oa6
  obtain ⟨g0, g1, g2, g3, g4, g5, g6, g7, gf, gl⟩ := nd8 oz6
  replace oa6 := Lib.hid oa6
  replace oz6 := Lib.hid oz6
  replace ob6 := Lib.hid ob6
  replace B6 := Lib.hid B6
  have hRa := Lib.hid (readsT_any _ _ _ W6 _ _ hA6 sT)
  have hRb := Lib.hid (fun W (hW : Below W6.heap.size W6 W) => readsT_any _ _ _ W _ _ (hD6.below hW) sT)
  rw [r1.out] at hRa
  rw [r2.out] at hRb
  replace hA6 := Lib.hid hA6
  replace hD6 := Lib.hid hD6
  have tok6 := Lib.hid True.intro
  go_upto_region 9 with (first
    | (go_at_call 6; have m0 := tok7; refine (hRb.out _ hb7.out).mono ?_; rintro e w8 ⟨rfl, hb8⟩
       have ob8 := obj_below ob7.out hb8
       have hD8 := Lib.hid (hD7.out.below hb8)
       have B8 := Lib.hid (belowT B7.out hb8))
    | (go_at_call 6; have m0 := tok6.out; refine hRa.out.mono ?_; rintro e w7 ⟨rfl, hb7⟩
       have ob7 := Lib.hid (obj_below ob6.out hb7)
       obtain ⟨j0, j1, j2, j3, j4, j5, j6, j7, jf, jl⟩ := nd8 ob7.out
       have hD7 := Lib.hid (hD6.out.below hb7)
       have B7 := Lib.hid (belowT B6.out hb7)
       replace hb7 := Lib.hid hb7
       have tok7 := True.intro))
  clear f0 f1 f2 f3 f4 f5 f6 f7 ff fl g0 g1 g2 g3 g4 g5 g6 g7 gf gl j0 j1 j2 j3 j4 j5 j6 j7 jf jl
  obtain ⟨f0, f1, f2, f3, f4, f5, f6, f7, ff, fl⟩ := nd8 ob8
  replace ob8 := Lib.hid ob8
  have r3 : readsN (ndA [(oT, 5)] [(sT, false, 0)]) oT = true := by decide
  replace r3 := Lib.hid r3
  have hRo := Lib.hid (fun W (hW : Below w8.heap.size w8 W) => readsT_any _ _ _ W _ _ (hD8.out.below hW) oT)
  rw [r3.out] at hRo
  have hFx := Lib.hid (fun W (hW : Below w8.heap.size w8 W) => fanT_any _ _ _ W _ _ (hD8.out.below hW) 1 [sT] (by decide +kernel) (.inr ⟨⟨sT, rfl⟩, rfl⟩))
  have ob9 := Lib.hid (show w8.drew.heap[Q]? = _ from ob8.out)
  refine wp_region_ord [0, 2, 3, 6, 7, 8, 9, 10, 11, 12] [0, 1, 2, 3, 7, 8, 9, 4, 5, 6, 10, 11, 12] (by kernel_rfl) (by kernel_rfl) ?_
  repeat (first
    | (apply OrdRun.val
       · rfl
       · (simp only [List.getElem?_toArray, List.getElem?_cons_zero, List.getElem?_cons_succ]; exact rfl)
       · (intro Wx; rfl)
       · rfl
       · (intro Wx hWx; first | (go_simp; done) | (go_simp; with_reducible rfl) | (obtain ⟨k0, k1, k2, k3, k4, k5, k6, k7, kf, kl⟩ := nd8 (obj_below ob9.out hWx); go_simp; done) | (obtain ⟨k0, k1, k2, k3, k4, k5, k6, k7, kf, kl⟩ := nd8 (obj_below ob9.out hWx); go_simp; with_reducible rfl))
       simp only [Act.put, List.setIfInBounds_toArray, List.set_cons_zero, List.set_cons_succ]))
  apply OrdRun.drive
  · rfl
  · (simp only [List.getElem?_toArray, List.getElem?_cons_zero, List.getElem?_cons_succ]; exact rfl)
  gi_wp2_with (refine ⟨trivial, rfl, callsIn_wide.2 ?_⟩; go_at_call 6; refine (hRo.out _ (Below.refl _ _).drew).mono ?_; rintro e w12 ⟨rfl, hb12⟩)
  try refine And.intro hb12 ?_
  have ob12 := Lib.hid (obj_below ob9.out hb12)
  have hb12a := Lib.hid ((Below.refl w8.heap.size w8).drew.trans hb12)
  repeat (first
    | (apply OrdRun.val
       · rfl
       · (simp only [List.getElem?_toArray, List.getElem?_cons_zero, List.getElem?_cons_succ]; exact rfl)
       · (intro Wx; rfl)
       · rfl
       · (intro Wx hWx; first | (go_simp; done) | (go_simp; with_reducible rfl) | (obtain ⟨k0, k1, k2, k3, k4, k5, k6, k7, kf, kl⟩ := nd8 (obj_below ob12.out hWx); go_simp; done) | (obtain ⟨k0, k1, k2, k3, k4, k5, k6, k7, kf, kl⟩ := nd8 (obj_below ob12.out hWx); go_simp; with_reducible rfl))
       simp only [Act.put, List.setIfInBounds_toArray, List.set_cons_zero, List.set_cons_succ]))
  apply OrdRun.drive
  · rfl
  · (simp only [List.getElem?_toArray, List.getElem?_cons_zero, List.getElem?_cons_succ]; exact rfl)
  gi_wp2_with fail
  try refine And.intro (below1 _ _) ?_
  have ob13 := Lib.hid (obj_alloc (o' := NdO (.slice b1 1 b2) (.slice b3 1 b4)) ob12.out)
  repeat (first
    | (apply OrdRun.val
       · rfl
       · (simp only [List.getElem?_toArray, List.getElem?_cons_zero, List.getElem?_cons_succ]; exact rfl)
       · (intro Wx; rfl)
       · rfl
       · (intro Wx hWx; first | (go_simp; done) | (go_simp; with_reducible rfl) | (obtain ⟨k0, k1, k2, k3, k4, k5, k6, k7, kf, kl⟩ := nd8 (obj_below ob13.out hWx); go_simp; done) | (obtain ⟨k0, k1, k2, k3, k4, k5, k6, k7, kf, kl⟩ := nd8 (obj_below ob13.out hWx); go_simp; with_reducible rfl))
       simp only [Act.put, List.setIfInBounds_toArray, List.set_cons_zero, List.set_cons_succ]))
  apply OrdRun.drive
  · rfl
  · (simp only [List.getElem?_toArray, List.getElem?_cons_zero, List.getElem?_cons_succ]; exact rfl)
  gi_wp2_with (refine ⟨trivial, rfl, callsIn_wide.2 ?_⟩; go_at_call 7; refine (hFx.out _ hb12a.out).mono ?_; rintro e w13 ⟨⟨p, c, rfl⟩, hb13⟩)
  refine And.intro (by have h := hb13; rw [World.size_alloc] at h; exact h) ?_
  have ob14 := Lib.hid (obj_below ob13.out hb13)
  repeat (first
    | (apply OrdRun.val
       · rfl
       · (simp only [List.getElem?_toArray, List.getElem?_cons_zero, List.getElem?_cons_succ]; exact rfl)
       · (intro Wx; rfl)
       · rfl
       · (intro Wx hWx; first | (go_simp; done) | (go_simp; with_reducible rfl) | (obtain ⟨k0, k1, k2, k3, k4, k5, k6, k7, kf, kl⟩ := nd8 (obj_below ob14.out hWx); go_simp; done) | (obtain ⟨k0, k1, k2, k3, k4, k5, k6, k7, kf, kl⟩ := nd8 (obj_below ob14.out hWx); go_simp; with_reducible rfl))
       simp only [Act.put, List.setIfInBounds_toArray, List.set_cons_zero, List.set_cons_succ]))
  refine OrdRun.nil ?_
  go_wp2_with fail
  go_ret
  exact ⟨rfl, belowT B8.out (hb12a.out.trans ((below1t hb13).mono hb12a.out.size))⟩
set_option maxRecDepth 100000 in
set_option maxHeartbeats 4000000 in
theorem asks_false_false (w : World) : Calls Try.prog 3 #[.bool false, .bool false] w fun e w' => e = .returned (.bool true) ∧ Below w.heap.size w w' := by
  have hO1 : NdAt [(oT, 5)] [] w.heap.size ((w.alloc (.cells #[.string ⟨oT.toArray⟩, .int .u8 5] 25)).alloc (NdO (.slice (some ⟨w.heap.size, 0, none⟩) 1 1) (.slice none 0 0))) (.slice (some ⟨w.heap.size, 0, none⟩) 1 1) (.slice none 0 0) :=
    ⟨.inl rfl, .inl rfl, ⟨rfl, .inr ⟨w.heap.size, 1, _, rfl, Nat.le_refl _, obj_alloc (bare_nd w _), Nat.le_refl _, by decide, rfl, rfl⟩⟩, World.ownsRow_nil _ _ _ _⟩
  have hB1 : Below w.heap.size w ((w.alloc (.cells #[.string ⟨oT.toArray⟩, .int .u8 5] 25)).alloc (NdO (.slice (some ⟨w.heap.size, 0, none⟩) 1 1) (.slice none 0 0))) := belowA (below1 w _) _
  replace hO1 := Lib.hid hO1
  replace hB1 := Lib.hid hB1
  have r1 : readsN (ndA [(oT, 5)] [(sT, true, 0)]) sT = false := by decide
  have r2 : readsN (ndA [(oT, 5)] []) sT = false := by decide
  replace r1 := Lib.hid r1
  replace r2 := Lib.hid r2
  have tok0 := Lib.hid True.intro
  go_enter Try.func3, Try.ntmps3
  go_upto_region 6 with (first
    | (go_at_call 5; have m0 := tok3; have hdn := decide_not _ _ _ _ true hA4.out; unfold zeroNd at hdn; refine hdn.mono ?_; clear hdn; rintro e w5 ⟨rfl, hb5⟩
       have oa5 := Lib.hid (obj_below (obj_alloc oa4.out) hb5)
       have oz5 := Lib.hid (obj_below (obj_alloc oz4.out) hb5)
       have ob5 := Lib.hid (obj_below (bare_nd w4 _) hb5)
       have hA5 := Lib.hid (hA4.out.below hb5)
       have hD5 := Lib.hid (hD4.out.below hb5)
       have B5 := Lib.hid (belowT B4.out hb5)
       have tok4 := True.intro)
    | (go_at_call 5; have m0 := tok2; refine (decide_no _ _ _ _ hA3.out).mono ?_; rintro e w4 ⟨bv, cv, rfl, hD4, hb4⟩
       obtain ⟨⟨b1, b2, rfl⟩, ⟨b3, b4, rfl⟩⟩ := hD4.shape
       have oa4 := Lib.hid (obj_below (obj_alloc oa3.out) hb4)
       have oz4 := Lib.hid (obj_below (bare_nd w3 _) hb4)
       obtain ⟨f0, f1, f2, f3, f4, f5, f6, f7, ff, fl⟩ := nd8 oa4.out
       have hA4 := Lib.hid ((hA3.out.below hb4).below (below1 w4 (NdO (.slice b1 1 b2) (.slice b3 0 b4))))
       replace hD4 := Lib.hid (hD4.below (below1 w4 (NdO (.slice b1 1 b2) (.slice b3 0 b4))))
       have B4 := Lib.hid (belowA (belowT B3.out hb4) (NdO (.slice b1 1 b2) (.slice b3 0 b4)))
       have tok3 := True.intro)
    | (go_at_call 4; have m0 := tok1; have hsw := sub_wait _ _ _ _ hA2.out; unfold zeroNd at hsw; refine hsw.mono ?_; clear hsw; rintro e w3 ⟨rfl, hb3⟩
       have oa3 := Lib.hid (obj_below (bare_nd w2 _) hb3)
       obtain ⟨f0, f1, f2, f3, f4, f5, f6, f7, ff, fl⟩ := nd8 oa3.out
       have hA3 := Lib.hid ((hA2.out.below hb3).below (below1 w3 NdZ))
       have B3 := Lib.hid (belowA (belowT B2.out hb3) NdZ)
       have tok2 := True.intro)
    | (go_at_call 4; have m0 := tok0.out; refine (sub_first _ _ _ hO1.out).mono ?_; rintro e w2 ⟨av, sv, rfl, hA2, hb2⟩
       obtain ⟨⟨a1, a2, rfl⟩, ⟨a3, a4, rfl⟩⟩ := hA2.shape
       replace hA2 := Lib.hid (hA2.below (below1 w2 (NdO (.slice a1 1 a2) (.slice a3 1 a4))))
       have B2 := Lib.hid (belowA (belowT hB1.out hb2) (NdO (.slice a1 1 a2) (.slice a3 1 a4)))
       have tok1 := True.intro))
  obtain ⟨W6, hW6, oa6, oz6, ob6, hA6, hD6, B6⟩ : ∃ W6, w5.alloc NdZ = W6 ∧ W6.heap[w2.heap.size]? = some (NdO (.slice a1 1 a2) (.slice a3 1 a4)) ∧ W6.heap[w3.heap.size]? = some NdZ ∧ W6.heap[w4.heap.size]? = some (NdO (.slice b1 1 b2) (.slice b3 0 b4)) ∧ NdAt _ _ _ W6 _ _ ∧ NdAt _ _ _ W6 _ _ ∧ Below w.heap.size w W6 :=
    ⟨_, rfl, obj_alloc oa5.out, obj_alloc oz5.out, obj_alloc ob5.out, hA5.out.below (below1 w5 _), hD5.out.below (below1 w5 _), belowA B5.out _⟩
  rw [hW6]
  generalize w2.heap.size = A at oa6 ⊢
  generalize w3.heap.size = Z at oz6 ⊢
  generalize w4.heap.size = Q at ob6 ⊢
  clear f0 f1 f2 f3 f4 f5 f6 f7 ff fl oa5 oz5 ob5 oa4 oz4 oa3 hW6
  obtain ⟨f0, f1, f2, f3, f4, f5, f6, f7, ff, fl⟩ := nd8 oa6
  obtain ⟨g0, g1, g2, g3, g4, g5, g6, g7, gf, gl⟩ := nd8 oz6
  replace oa6 := Lib.hid oa6
  replace oz6 := Lib.hid oz6
  replace ob6 := Lib.hid ob6
  replace B6 := Lib.hid B6
  have hRa := Lib.hid (readsT_any _ _ _ W6 _ _ hA6 sT)
  have hRb := Lib.hid (fun W (hW : Below W6.heap.size W6 W) => readsT_any _ _ _ W _ _ (hD6.below hW) sT)
  rw [r1.out] at hRa
  rw [r2.out] at hRb
  replace hA6 := Lib.hid hA6
  replace hD6 := Lib.hid hD6
  have tok6 := Lib.hid True.intro
  go_upto_region 9 with (first
    | (go_at_call 6; have m0 := tok7; refine (hRb.out _ hb7.out).mono ?_; rintro e w8 ⟨rfl, hb8⟩
       have ob8 := obj_below ob7.out hb8
       have hD8 := Lib.hid (hD7.out.below hb8)
       have B8 := Lib.hid (belowT B7.out hb8))
    | (go_at_call 6; have m0 := tok6.out; refine hRa.out.mono ?_; rintro e w7 ⟨rfl, hb7⟩
       have ob7 := Lib.hid (obj_below ob6.out hb7)
       obtain ⟨j0, j1, j2, j3, j4, j5, j6, j7, jf, jl⟩ := nd8 ob7.out
       have hD7 := Lib.hid (hD6.out.below hb7)
       have B7 := Lib.hid (belowT B6.out hb7)
       replace hb7 := Lib.hid hb7
       have tok7 := True.intro))
  clear f0 f1 f2 f3 f4 f5 f6 f7 ff fl g0 g1 g2 g3 g4 g5 g6 g7 gf gl j0 j1 j2 j3 j4 j5 j6 j7 jf jl
  obtain ⟨f0, f1, f2, f3, f4, f5, f6, f7, ff, fl⟩ := nd8 ob8
  replace ob8 := Lib.hid ob8
  have r3 : readsN (ndA [(oT, 5)] []) oT = true := by decide
  replace r3 := Lib.hid r3
  have hRo := Lib.hid (fun W (hW : Below w8.heap.size w8 W) => readsT_any _ _ _ W _ _ (hD8.out.below hW) oT)
  rw [r3.out] at hRo
  have hFx := Lib.hid (fun W (hW : Below w8.heap.size w8 W) => fanT_any _ _ _ W _ _ (hD8.out.below hW) 0 [] (by decide +kernel) (.inl ⟨rfl, rfl⟩))
  have ob9 := Lib.hid (show w8.drew.heap[Q]? = _ from ob8.out)
  refine wp_region_ord [0, 2, 3, 6, 7, 8, 9, 10, 11, 12] [0, 1, 2, 3, 7, 8, 9, 4, 5, 6, 10, 11, 12] (by kernel_rfl) (by kernel_rfl) ?_
  repeat (first
    | (apply OrdRun.val
       · rfl
       · (simp only [List.getElem?_toArray, List.getElem?_cons_zero, List.getElem?_cons_succ]; exact rfl)
       · (intro Wx; rfl)
       · rfl
       · (intro Wx hWx; first | (go_simp; done) | (go_simp; with_reducible rfl) | (obtain ⟨k0, k1, k2, k3, k4, k5, k6, k7, kf, kl⟩ := nd8 (obj_below ob9.out hWx); go_simp; done) | (obtain ⟨k0, k1, k2, k3, k4, k5, k6, k7, kf, kl⟩ := nd8 (obj_below ob9.out hWx); go_simp; with_reducible rfl))
       simp only [Act.put, List.setIfInBounds_toArray, List.set_cons_zero, List.set_cons_succ]))
  apply OrdRun.drive
  · rfl
  · (simp only [List.getElem?_toArray, List.getElem?_cons_zero, List.getElem?_cons_succ]; exact rfl)
  gi_wp2_with (refine ⟨trivial, rfl, callsIn_wide.2 ?_⟩; go_at_call 6; refine (hRo.out _ (Below.refl _ _).drew).mono ?_; rintro e w12 ⟨rfl, hb12⟩)
  try refine And.intro hb12 ?_
  have ob12 := Lib.hid (obj_below ob9.out hb12)
  have hb12a := Lib.hid ((Below.refl w8.heap.size w8).drew.trans hb12)
  repeat (first
    | (apply OrdRun.val
       · rfl
       · (simp only [List.getElem?_toArray, List.getElem?_cons_zero, List.getElem?_cons_succ]; exact rfl)
       · (intro Wx; rfl)
       · rfl
       · (intro Wx hWx; first | (go_simp; done) | (go_simp; with_reducible rfl) | (obtain ⟨k0, k1, k2, k3, k4, k5, k6, k7, kf, kl⟩ := nd8 (obj_below ob12.out hWx); go_simp; done) | (obtain ⟨k0, k1, k2, k3, k4, k5, k6, k7, kf, kl⟩ := nd8 (obj_below ob12.out hWx); go_simp; with_reducible rfl))
       simp only [Act.put, List.setIfInBounds_toArray, List.set_cons_zero, List.set_cons_succ]))
  apply OrdRun.drive
  · rfl
  · (simp only [List.getElem?_toArray, List.getElem?_cons_zero, List.getElem?_cons_succ]; exact rfl)
  gi_wp2_with fail
  try refine And.intro (below1 _ _) ?_
  have ob13 := Lib.hid (obj_alloc (o' := NdO (.slice b1 1 b2) (.slice b3 0 b4)) ob12.out)
  repeat (first
    | (apply OrdRun.val
       · rfl
       · (simp only [List.getElem?_toArray, List.getElem?_cons_zero, List.getElem?_cons_succ]; exact rfl)
       · (intro Wx; rfl)
       · rfl
       · (intro Wx hWx; first | (go_simp; done) | (go_simp; with_reducible rfl) | (obtain ⟨k0, k1, k2, k3, k4, k5, k6, k7, kf, kl⟩ := nd8 (obj_below ob13.out hWx); go_simp; done) | (obtain ⟨k0, k1, k2, k3, k4, k5, k6, k7, kf, kl⟩ := nd8 (obj_below ob13.out hWx); go_simp; with_reducible rfl))
       simp only [Act.put, List.setIfInBounds_toArray, List.set_cons_zero, List.set_cons_succ]))
  apply OrdRun.drive
  · rfl
  · (simp only [List.getElem?_toArray, List.getElem?_cons_zero, List.getElem?_cons_succ]; exact rfl)
  gi_wp2_with (refine ⟨trivial, rfl, callsIn_wide.2 ?_⟩; go_at_call 7; refine (hFx.out _ hb12a.out).mono ?_; rintro e w13 ⟨⟨p, c, rfl⟩, hb13⟩)
  refine And.intro (by have h := hb13; rw [World.size_alloc] at h; exact h) ?_
  have ob14 := Lib.hid (obj_below ob13.out hb13)
  repeat (first
    | (apply OrdRun.val
       · rfl
       · (simp only [List.getElem?_toArray, List.getElem?_cons_zero, List.getElem?_cons_succ]; exact rfl)
       · (intro Wx; rfl)
       · rfl
       · (intro Wx hWx; first | (go_simp; done) | (go_simp; with_reducible rfl) | (obtain ⟨k0, k1, k2, k3, k4, k5, k6, k7, kf, kl⟩ := nd8 (obj_below ob14.out hWx); go_simp; done) | (obtain ⟨k0, k1, k2, k3, k4, k5, k6, k7, kf, kl⟩ := nd8 (obj_below ob14.out hWx); go_simp; with_reducible rfl))
       simp only [Act.put, List.setIfInBounds_toArray, List.set_cons_zero, List.set_cons_succ]))
  refine OrdRun.nil ?_
  go_wp2_with fail
  go_ret
  exact ⟨rfl, belowT B8.out (hb12a.out.trans ((below1t hb13).mono hb12a.out.size))⟩
theorem asks_any (y o : Bool) (w : World) : Calls Try.prog 3 #[.bool y, .bool o] w fun e w' => e = .returned (.bool true) ∧ Below w.heap.size w w' := by
  cases y <;> cases o
  · exact asks_false_false w
  · exact asks_false_true w
  · exact asks_true_false w
  · exact asks_true_true w
end Go.Proofs.Ytoijpjmkjhoiaaa
