/-
  The walk of StanzaSame.
-/
import Derived.Test.YtpgojinfhfipeaaStRow
namespace Go.Proofs.Ytpgojinfhfipeaa
set_option linter.unusedVariables false
set_option linter.unusedSimpArgs false
open Go.RowKit Go.MapKept
theorem two_sets {W : World} {A B : Nat} {t t' : TypeId} {a0 a1 a2 a3 a4 a5 b0 b1 b2 b3 b4 b5 : Value} (hne : A ≠ B) (hA : W.heap[A]? = some (.cells #[a0, a1, a2, a3, a4, a5] t)) (hB : W.heap[B]? = some (.cells #[b0, b1, b2, b3, b4, b5] t')) (u0 u1 u2 u3 u4 u5 v0 v1 v2 v3 v4 v5 : Value) :
    (((((((((((((W.setCell ⟨A, 0, none⟩ u0).setCell ⟨A, 1, none⟩ u1).setCell ⟨A, 2, none⟩ u2).setCell ⟨A, 3, none⟩ u3).setCell ⟨A, 4, none⟩ u4).setCell ⟨A, 5, none⟩ u5).setCell ⟨B, 0, none⟩ v0).setCell ⟨B, 1, none⟩ v1).setCell ⟨B, 2, none⟩ v2).setCell ⟨B, 3, none⟩ v3).setCell ⟨B, 4, none⟩ v4).setCell ⟨B, 5, none⟩ v5)).heap[A]? = some (.cells #[u0, u1, u2, u3, u4, u5] t) ∧ (((((((((((((W.setCell ⟨A, 0, none⟩ u0).setCell ⟨A, 1, none⟩ u1).setCell ⟨A, 2, none⟩ u2).setCell ⟨A, 3, none⟩ u3).setCell ⟨A, 4, none⟩ u4).setCell ⟨A, 5, none⟩ u5).setCell ⟨B, 0, none⟩ v0).setCell ⟨B, 1, none⟩ v1).setCell ⟨B, 2, none⟩ v2).setCell ⟨B, 3, none⟩ v3).setCell ⟨B, 4, none⟩ v4).setCell ⟨B, 5, none⟩ v5)).heap[B]? = some (.cells #[v0, v1, v2, v3, v4, v5] t') := by
  refine ⟨(set6o _ hne _ _ _ _ _ _).trans (set6_obj hA _ _ _ _ _ _), set6_obj ((set6o _ hne.symm _ _ _ _ _ _).trans hB) _ _ _ _ _ _⟩
theorem keepTwo {W w' : World} {A B : Nat} {a0 a1 a2 a3 a4 a5 b0 b1 b2 b3 b4 b5 : Value} (h : (W.cell? ⟨A, 0, none⟩ = some a0 ∧ W.cell? ⟨A, 1, none⟩ = some a1 ∧ W.cell? ⟨A, 2, none⟩ = some a2 ∧ W.cell? ⟨A, 3, none⟩ = some a3 ∧ W.cell? ⟨A, 4, none⟩ = some a4 ∧ W.cell? ⟨A, 5, none⟩ = some a5 ∧ A < W.heap.size) ∧ (W.cell? ⟨B, 0, none⟩ = some b0 ∧ W.cell? ⟨B, 1, none⟩ = some b1 ∧ W.cell? ⟨B, 2, none⟩ = some b2 ∧ W.cell? ⟨B, 3, none⟩ = some b3 ∧ W.cell? ⟨B, 4, none⟩ = some b4 ∧ W.cell? ⟨B, 5, none⟩ = some b5 ∧ B < W.heap.size)) (hb : Below W.heap.size W w') :
    (w'.cell? ⟨A, 0, none⟩ = some a0 ∧ w'.cell? ⟨A, 1, none⟩ = some a1 ∧ w'.cell? ⟨A, 2, none⟩ = some a2 ∧ w'.cell? ⟨A, 3, none⟩ = some a3 ∧ w'.cell? ⟨A, 4, none⟩ = some a4 ∧ w'.cell? ⟨A, 5, none⟩ = some a5 ∧ A < w'.heap.size) ∧ (w'.cell? ⟨B, 0, none⟩ = some b0 ∧ w'.cell? ⟨B, 1, none⟩ = some b1 ∧ w'.cell? ⟨B, 2, none⟩ = some b2 ∧ w'.cell? ⟨B, 3, none⟩ = some b3 ∧ w'.cell? ⟨B, 4, none⟩ = some b4 ∧ w'.cell? ⟨B, 5, none⟩ = some b5 ∧ B < w'.heap.size) := ⟨keepB6 h.1 hb, keepB6 h.2 hb⟩
set_option maxHeartbeats 4000000 in
theorem same_of6 (f1 f2 z1 z2 : Sz) (s1 s2 : Value) (w : World) (hz1 : f1 = { z1 with pl := z1.pl.take 70 }) (hz2 : f2 = { z2 with pl := z2.pl.take 70 }) (hT1 : TkS w s1 z1.pl) (hT2 : TkS w s2 z2.pl) :
    Calls Try.prog 7 #[szV z1 s1, szV z2 s2] w fun e w' => e = .returned (.bool true) ∧ Below w.heap.size w w' := by
  have hA : Hid (∀ W, Calls Try.prog 11 #[szV z1 s1] W fun e w' => ∃ sv', e = .returned (szV f1 sv') ∧ TkS w sv' f1.pl ∧ Below W.heap.size W w') := Lib.hid fun W => by subst hz1; exact fewZ_any z1 s1 w W hT1
  have hB : Hid (∀ W, Calls Try.prog 11 #[szV z2 s2] W fun e w' => ∃ sv', e = .returned (szV f2 sv') ∧ TkS w sv' f2.pl ∧ Below W.heap.size W w') := Lib.hid fun W => by subst hz2; exact fewZ_any z2 s2 w W hT2
  obtain ⟨q, hq⟩ : ∃ q, sameZ f1 f2 = q := ⟨_, rfl⟩
  have hq' : sameZ f2 f1 = q := by rw [sameZ_comm, hq]
  have hS1 : Hid (∀ W v1 v2, TkS W v1 f1.pl → TkS W v2 f2.pl → Calls Try.prog 20 #[szV f1 v1, szV f2 v2] W fun e w' => e = .returned (.bool q) ∧ Below W.heap.size W w') := Lib.hid fun W v1 v2 h1 h2 => by have := sameZ_any f1 f2 v1 v2 W h1 h2; rw [hq] at this; exact this
  have hS2 : Hid (∀ W v1 v2, TkS W v1 f1.pl → TkS W v2 f2.pl → Calls Try.prog 14 #[szV f1 v1, szV f2 v2] W fun e w' => e = .returned (.bool q) ∧ Below W.heap.size W w') := Lib.hid fun W v1 v2 h1 h2 => by have := same06_any f1 f2 v1 v2 W h1 h2; rw [hq] at this; exact this
  have hS3 : Hid (∀ W v1 v2, TkS W v1 f2.pl → TkS W v2 f1.pl → Calls Try.prog 20 #[szV f2 v1, szV f1 v2] W fun e w' => e = .returned (.bool q) ∧ Below W.heap.size W w') := Lib.hid fun W v1 v2 h1 h2 => by have := sameZ_any f2 f1 v1 v2 W h1 h2; rw [hq'] at this; exact this
  have hS4 : Hid (∀ W v1 v2, TkS W v1 f1.pl → TkS W v2 f1.pl → Calls Try.prog 20 #[szV f1 v1, szV f1 v2] W fun e w' => e = .returned (.bool true) ∧ Below W.heap.size W w') := Lib.hid fun W v1 v2 h1 h2 => by have := sameZ_any f1 f1 v1 v2 W h1 h2; rw [sameZ_refl] at this; exact this
  obtain ⟨p1, m1, c1, rfl⟩ : ∃ a n c, s1 = .slice a n c := by obtain ⟨a, c, h, -⟩ := hT1; exact ⟨a, _, c, h⟩
  obtain ⟨p2, m2, c2, rfl⟩ : ∃ a n c, s2 = .slice a n c := by obtain ⟨a, c, h, -⟩ := hT2; exact ⟨a, _, c, h⟩
  clear hq hq' hz1 hz2 hT1 hT2
  unfold szV at *
  obtain ⟨x1, x2, x3, x4, x5, x6⟩ := z1
  obtain ⟨y1, y2, y3, y4, y5, y6⟩ := z2
  obtain ⟨k1, t1, r1, o1, i1, l1⟩ := f1
  obtain ⟨k2, t2, r2, o2, i2, l2⟩ := f2
  simp only at *
  go_enter Try.func7, Try.ntmps7
  go_upto_region 1 with (fail)
  go_cut [5] (fun _ W => ∃ fa1 fn1 fc1 fa2 fn2 fc2, W.heap[w.heap.size]? = some (.cells #[.int .u8 k1, .string ⟨t1.toArray⟩, .string ⟨r1.toArray⟩, .string ⟨o1.toArray⟩, .string ⟨i1.toArray⟩, .slice fa1 fn1 fc1] 25) ∧ W.heap[w.heap.size + 1]? = some (.cells #[.int .u8 k2, .string ⟨t2.toArray⟩, .string ⟨r2.toArray⟩, .string ⟨o2.toArray⟩, .string ⟨i2.toArray⟩, .slice fa2 fn2 fc2] 25) ∧ TkS w (.slice fa1 fn1 fc1) l1 ∧ TkS w (.slice fa2 fn2 fc2) l2 ∧ Below w.heap.size w W)
  case first =>
    have hOX : Hid (((w.alloc (.cells #[.int .u8 x1, .string ⟨x2.toArray⟩, .string ⟨x3.toArray⟩, .string ⟨x4.toArray⟩, .string ⟨x5.toArray⟩, .slice p1 m1 c1] 25)).alloc (.cells #[.int .u8 y1, .string ⟨y2.toArray⟩, .string ⟨y3.toArray⟩, .string ⟨y4.toArray⟩, .string ⟨y5.toArray⟩, .slice p2 m2 c2] 25)).drew.heap[w.heap.size]? = some (.cells #[.int .u8 x1, .string ⟨x2.toArray⟩, .string ⟨x3.toArray⟩, .string ⟨x4.toArray⟩, .string ⟨x5.toArray⟩, .slice p1 m1 c1] 25)) := Lib.hid (obj_alloc (heap_alloc w _).1)
    have hOY : Hid (((w.alloc (.cells #[.int .u8 x1, .string ⟨x2.toArray⟩, .string ⟨x3.toArray⟩, .string ⟨x4.toArray⟩, .string ⟨x5.toArray⟩, .slice p1 m1 c1] 25)).alloc (.cells #[.int .u8 y1, .string ⟨y2.toArray⟩, .string ⟨y3.toArray⟩, .string ⟨y4.toArray⟩, .string ⟨y5.toArray⟩, .slice p2 m2 c2] 25)).drew.heap[w.heap.size + 1]? = some (.cells #[.int .u8 y1, .string ⟨y2.toArray⟩, .string ⟨y3.toArray⟩, .string ⟨y4.toArray⟩, .string ⟨y5.toArray⟩, .slice p2 m2 c2] 25)) := Lib.hid (by have := (heap_alloc (w.alloc (.cells #[.int .u8 x1, .string ⟨x2.toArray⟩, .string ⟨x3.toArray⟩, .string ⟨x4.toArray⟩, .string ⟨x5.toArray⟩, .slice p1 m1 c1] 25)) (.cells #[.int .u8 y1, .string ⟨y2.toArray⟩, .string ⟨y3.toArray⟩, .string ⟨y4.toArray⟩, .string ⟨y5.toArray⟩, .slice p2 m2 c2] 25)).1; rw [World.size_alloc] at this; exact this)
    have hBC : Hid (Below w.heap.size w ((w.alloc (.cells #[.int .u8 x1, .string ⟨x2.toArray⟩, .string ⟨x3.toArray⟩, .string ⟨x4.toArray⟩, .string ⟨x5.toArray⟩, .slice p1 m1 c1] 25)).alloc (.cells #[.int .u8 y1, .string ⟨y2.toArray⟩, .string ⟨y3.toArray⟩, .string ⟨y4.toArray⟩, .string ⟨y5.toArray⟩, .slice p2 m2 c2] 25)).drew) := Lib.hid (belowA (below1 w _) _).drew
    go_region_law (first
      | (go_simp
         go_at_call 11
         with_reducible refine (hA.out _).mono ?_
         rintro e wa ⟨va, rfl, hTa, hba⟩
         obtain ⟨fa1, fn1, fc1, rfl⟩ : ∃ a n c, va = .slice a n c := (by obtain ⟨a, c, h, -⟩ := hTa; exact ⟨a, _, c, h⟩)
         have oX := (hba.block _ (Array.getElem?_eq_some_iff.1 hOX.out).1).trans hOX.out
         have oY := (hba.block _ (Array.getElem?_eq_some_iff.1 hOY.out).1).trans hOY.out
         obtain ⟨xcA, xfA, xlA⟩ := obj_cells oX
         obtain ⟨ycA, yfA, ylA⟩ := obj_cells oY
         replace hOX := Lib.hid oX
         replace hOY := Lib.hid oY
         replace hBC := Lib.hid (belowT hBC.out hba)
         clear oX oY hba
         replace hTa := Lib.hid hTa)
      | (go_simp
         go_at_call 11
         with_reducible refine (hB.out _).mono ?_
         rintro e wb ⟨vb, rfl, hTb, hbb⟩
         obtain ⟨fa2, fn2, fc2, rfl⟩ : ∃ a n c, vb = .slice a n c := (by obtain ⟨a, c, h, -⟩ := hTb; exact ⟨a, _, c, h⟩)
         have oX := (hbb.block _ (Array.getElem?_eq_some_iff.1 hOX.out).1).trans hOX.out
         have oY := (hbb.block _ (Array.getElem?_eq_some_iff.1 hOY.out).1).trans hOY.out
         obtain ⟨xcB, xfB, xlB⟩ := obj_cells oX
         obtain ⟨ycB, yfB, ylB⟩ := obj_cells oY
         replace hOX := Lib.hid oX
         replace hOY := Lib.hid oY
         replace hBC := Lib.hid (belowT hBC.out hbb)
         clear oX oY hbb
         replace hTb := Lib.hid hTb))
    all_goals go_wp2_with fail
    all_goals go_meet
    all_goals exact ⟨fa1, fn1, fc1, fa2, fn2, fc2, (two_sets (by omega) hOX.out hOY.out _ _ _ _ _ _ _ _ _ _ _ _).1, (two_sets (by omega) hOX.out hOY.out _ _ _ _ _ _ _ _ _ _ _ _).2, hTa.out, hTb.out, set6 (set6 hBC.out (Nat.le_refl _) _ _ _ _ _ _) (by omega) _ _ _ _ _ _⟩
  case rest =>
    obtain ⟨fa1, fn1, fc1, fa2, fn2, fc2, hO1, hO2, hT1, hT2, hBC⟩ := hcut
    replace hBC := Lib.hid hBC
    replace hT1 := Lib.hid hT1
    replace hT2 := Lib.hid hT2
    obtain ⟨xc, -, xl⟩ := obj_cells hO1
    obtain ⟨yc, -, yl⟩ := obj_cells hO2
    have hS0 : (wc.drew.cell? ⟨w.heap.size, 0, none⟩ = some (.int .u8 k1) ∧ wc.drew.cell? ⟨w.heap.size, 1, none⟩ = some (.string ⟨t1.toArray⟩) ∧ wc.drew.cell? ⟨w.heap.size, 2, none⟩ = some (.string ⟨r1.toArray⟩) ∧ wc.drew.cell? ⟨w.heap.size, 3, none⟩ = some (.string ⟨o1.toArray⟩) ∧ wc.drew.cell? ⟨w.heap.size, 4, none⟩ = some (.string ⟨i1.toArray⟩) ∧ wc.drew.cell? ⟨w.heap.size, 5, none⟩ = some (.slice fa1 fn1 fc1) ∧ w.heap.size < wc.drew.heap.size) ∧ (wc.drew.cell? ⟨w.heap.size + 1, 0, none⟩ = some (.int .u8 k2) ∧ wc.drew.cell? ⟨w.heap.size + 1, 1, none⟩ = some (.string ⟨t2.toArray⟩) ∧ wc.drew.cell? ⟨w.heap.size + 1, 2, none⟩ = some (.string ⟨r2.toArray⟩) ∧ wc.drew.cell? ⟨w.heap.size + 1, 3, none⟩ = some (.string ⟨o2.toArray⟩) ∧ wc.drew.cell? ⟨w.heap.size + 1, 4, none⟩ = some (.string ⟨i2.toArray⟩) ∧ wc.drew.cell? ⟨w.heap.size + 1, 5, none⟩ = some (.slice fa2 fn2 fc2) ∧ w.heap.size + 1 < wc.drew.heap.size) := ⟨⟨xc 0, xc 1, xc 2, xc 3, xc 4, xc 5, xl⟩, ⟨yc 0, yc 1, yc 2, yc 3, yc 4, yc 5, yl⟩⟩
    clear xc yc xl yl hO1 hO2
    replace hBC := Lib.hid (hBC.out.drew)
    have tok1 := Lib.hid True.intro
    go_wp2_with fail
    go_region_held3 (fun W => (W.cell? ⟨w.heap.size, 0, none⟩ = some (.int .u8 k1) ∧ W.cell? ⟨w.heap.size, 1, none⟩ = some (.string ⟨t1.toArray⟩) ∧ W.cell? ⟨w.heap.size, 2, none⟩ = some (.string ⟨r1.toArray⟩) ∧ W.cell? ⟨w.heap.size, 3, none⟩ = some (.string ⟨o1.toArray⟩) ∧ W.cell? ⟨w.heap.size, 4, none⟩ = some (.string ⟨i1.toArray⟩) ∧ W.cell? ⟨w.heap.size, 5, none⟩ = some (.slice fa1 fn1 fc1) ∧ w.heap.size < W.heap.size) ∧ (W.cell? ⟨w.heap.size + 1, 0, none⟩ = some (.int .u8 k2) ∧ W.cell? ⟨w.heap.size + 1, 1, none⟩ = some (.string ⟨t2.toArray⟩) ∧ W.cell? ⟨w.heap.size + 1, 2, none⟩ = some (.string ⟨r2.toArray⟩) ∧ W.cell? ⟨w.heap.size + 1, 3, none⟩ = some (.string ⟨o2.toArray⟩) ∧ W.cell? ⟨w.heap.size + 1, 4, none⟩ = some (.string ⟨i2.toArray⟩) ∧ W.cell? ⟨w.heap.size + 1, 5, none⟩ = some (.slice fa2 fn2 fc2) ∧ w.heap.size + 1 < W.heap.size))
      (first | with_reducible assumption | with_reducible exact keepTwo (by assumption) hb9.out | with_reducible exact keepTwo (by assumption) hb8.out | with_reducible exact keepTwo (by assumption) hb7.out | with_reducible exact keepTwo (by assumption) hb6.out | with_reducible exact keepTwo (by assumption) hb5.out | with_reducible exact keepTwo (by assumption) hb4.out)
      (first
        | (go_at_call 9
           refine (live6_any _).mono ?_
           rintro e w4 ⟨rfl, hb4⟩
           replace hBC := Lib.hid (belowT hBC.out hb4)
           replace hb4 := Lib.hid hb4)
        | (go_at_call 20
           have m0 := tok1.out
           refine (hS1.out _ _ _ (hT1.out.below hBC.out) (hT2.out.below hBC.out)).mono ?_
           rintro e w5 ⟨rfl, hb5⟩
           replace hBC := Lib.hid (belowT hBC.out hb5)
           replace hb5 := Lib.hid hb5
           clear tok1 m0
           have tok2 := Lib.hid True.intro)
        | (go_at_call 14
           refine (hS2.out _ _ _ (hT1.out.below hBC.out) (hT2.out.below hBC.out)).mono ?_
           rintro e w6 ⟨rfl, hb6⟩
           replace hBC := Lib.hid (belowT hBC.out hb6)
           replace hb6 := Lib.hid hb6)
        | (go_at_call 20
           have m0 := tok2.out
           refine (hS1.out _ _ _ (hT1.out.below hBC.out) (hT2.out.below hBC.out)).mono ?_
           rintro e w7 ⟨rfl, hb7⟩
           replace hBC := Lib.hid (belowT hBC.out hb7)
           replace hb7 := Lib.hid hb7
           clear tok2 m0
           have tok3 := Lib.hid True.intro)
        | (go_at_call 20
           have m0 := tok3.out
           refine (hS3.out _ _ _ (hT2.out.below hBC.out) (hT1.out.below hBC.out)).mono ?_
           rintro e w8 ⟨rfl, hb8⟩
           replace hBC := Lib.hid (belowT hBC.out hb8)
           replace hb8 := Lib.hid hb8
           clear tok3 m0
           have tok4 := Lib.hid True.intro)
        | (go_at_call 20
           have m0 := tok4.out
           refine (hS4.out _ _ _ (hT1.out.below hBC.out) (hT1.out.below hBC.out)).mono ?_
           rintro e w9 ⟨rfl, hb9⟩
           replace hBC := Lib.hid (belowT hBC.out hb9)
           replace hb9 := Lib.hid hb9
           clear tok4 m0))
    all_goals go_wp2_with fail
    all_goals go_ret
    all_goals exact ⟨rfl, hBC.out⟩
theorem stanzaSame_walk (z1 : Sz) (s1 : Value) (z2 : Sz) (s2 : Value) (w : World) (h1 : TkS w s1 z1.pl) (_ : z1.smallF) (_ : TksB 140737488351232 z1.pl) (_ : z1.k < 256) (h2 : TkS w s2 z2.pl) (_ : z2.smallF) (_ : TksB 140737488351232 z2.pl) (_ : z2.k < 256) :
    Calls Try.prog 7 #[szV z1 s1, szV z2 s2] w fun e w' => e = .returned (.bool true) ∧ Below w.heap.size w w' := same_of6 _ _ z1 z2 s1 s2 w rfl rfl h1 h2
end Go.Proofs.Ytpgojinfhfipeaa
