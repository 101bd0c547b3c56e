/-
  The walk of RequestOne: unlike requests have unlike payloads. Condition: no text beyond the reach; the library's variables are as they were laid.
-/
import Derived.Test.YtmapinediglimaaDoorRqLive
import Derived.Test.YtmapinediglimaaDoorWrRefSame
import Derived.Test.YtmapinediglimaaDoorFloat
namespace Go.Proofs.YtmapinediglimaaDoor
set_option linter.unusedVariables false
set_option linter.unusedSimpArgs false
open Go.RowKit Go.MapKept
/-- what two requests and two payloads are while others work -/
structure TwoR (w : World) (B : Nat) (c d : Array Value) (v1 v2 : Value) (T1 T2 : List Tk) (W : World) : Prop where
  x : ∀ i, W.cell? ⟨B, i, none⟩ = c[i]?
  y : ∀ i, W.cell? ⟨B + 1, i, none⟩ = d[i]?
  t1 : TkS W v1 T1
  t2 : TkS W v2 T2
  b : Below w.heap.size w W
  l : B + 1 < W.heap.size
theorem TwoR.keep {w W w' : World} {B : Nat} {c d : Array Value} {v1 v2 : Value} {T1 T2 : List Tk} (h : TwoR w B c d v1 v2 T1 T2 W) (hb : Below W.heap.size W w') : TwoR w B c d v1 v2 T1 T2 w' :=
  ⟨fun i => ((bat hb B (by have := h.l; omega)).1 i).trans (h.x i), fun i => ((bat hb (B + 1) h.l).1 i).trans (h.y i), h.t1.below hb, h.t2.below hb, belowT h.b hb, Nat.lt_of_lt_of_le h.l hb.size⟩
set_option maxRecDepth 100000 in
set_option maxHeartbeats 8000000 in
theorem requestOne_walk (a b : Rq) (w : World) (ha : a.small) (hb : b.small) (hT : Tabs w) :
    Calls Tryd.prog 3 #[rqV a, rqV b] w fun e w' => e = .returned (.bool true) ∧ Below w.heap.size w w' := by
  have hE1 := fun W (h : Below w.heap.size w W) => enc_any a W ha (hT.pow.below h)
  have hE2 := fun W (h : Below w.heap.size w W) => enc_any b W hb (hT.pow.below h)
  have hL := fun W (h : Below w.heap.size w W) => live13_any W (hT.below h)
  have hSm : ∀ v1 v2 W, TkS W v1 (encR a) → TkS W v2 (encR b) → Calls Tryd.prog 9 #[v1, v2] W fun e w' => e = .returned (.bool (sameL (encR a) (encR b))) ∧ Below W.heap.size W w' := fun v1 v2 W h1 h2 => refSame_any v1 v2 _ _ W h1 h2
  have hq : rightR a = true → rightR b = true → sameL (encR a) (encR b) = eqR a b := fun h1 h2 => by
    unfold encR; rw [if_pos h1, if_pos h2]; exact toks_inj h1 h2
  generalize encR a = TA at *
  generalize encR b = TB at *
  generalize rightR a = ra at *
  generalize rightR b = rb at *
  generalize sameL TA TB = q at *
  generalize hQ : eqR a b = Q at hq
  unfold eqR at hQ
  unfold rqV at *
  obtain ⟨a1, a2, a3, a4, a5, a6, a7, a8, a9, aa, ab⟩ := a
  obtain ⟨b1, b2, b3, b4, b5, b6, b7, b8, b9, ba, bb⟩ := b
  simp only at *
  replace hQ := Lib.hid hQ
  replace hE1 := Lib.hid hE1
  replace hE2 := Lib.hid hE2
  replace hL := Lib.hid hL
  replace hSm := Lib.hid hSm
  replace hq := Lib.hid hq
  replace hT := Lib.hid hT
  have hBx := Lib.hid ((below1 w (.cells #[.int .u8 a1, .string ⟨a2.toArray⟩, .string ⟨a3.toArray⟩, .string ⟨a4.toArray⟩, .int .u8 a5, .int .u8 a6, .int .i64 a7, .int .i64 a8, .string ⟨a9.toArray⟩, .bool aa, .string ⟨ab.toArray⟩] 26)).alloc (by simp) (.cells #[.int .u8 b1, .string ⟨b2.toArray⟩, .string ⟨b3.toArray⟩, .string ⟨b4.toArray⟩, .int .u8 b5, .int .u8 b6, .int .i64 b7, .int .i64 b8, .string ⟨b9.toArray⟩, .bool ba, .string ⟨bb.toArray⟩] 26))
  have oX : Hid (((w.alloc (.cells #[.int .u8 a1, .string ⟨a2.toArray⟩, .string ⟨a3.toArray⟩, .string ⟨a4.toArray⟩, .int .u8 a5, .int .u8 a6, .int .i64 a7, .int .i64 a8, .string ⟨a9.toArray⟩, .bool aa, .string ⟨ab.toArray⟩] 26)).alloc (.cells #[.int .u8 b1, .string ⟨b2.toArray⟩, .string ⟨b3.toArray⟩, .string ⟨b4.toArray⟩, .int .u8 b5, .int .u8 b6, .int .i64 b7, .int .i64 b8, .string ⟨b9.toArray⟩, .bool ba, .string ⟨bb.toArray⟩] 26)).heap[w.heap.size]? = _) := Lib.hid (obj_alloc (heapAt_last rfl))
  have oY : Hid (((w.alloc (.cells #[.int .u8 a1, .string ⟨a2.toArray⟩, .string ⟨a3.toArray⟩, .string ⟨a4.toArray⟩, .int .u8 a5, .int .u8 a6, .int .i64 a7, .int .i64 a8, .string ⟨a9.toArray⟩, .bool aa, .string ⟨ab.toArray⟩] 26)).alloc (.cells #[.int .u8 b1, .string ⟨b2.toArray⟩, .string ⟨b3.toArray⟩, .string ⟨b4.toArray⟩, .int .u8 b5, .int .u8 b6, .int .i64 b7, .int .i64 b8, .string ⟨b9.toArray⟩, .bool ba, .string ⟨bb.toArray⟩] 26)).heap[w.heap.size + 1]? = _) := Lib.hid (heapAt_last (by simp only [World.size_alloc]))
  go_enter Tryd.func3, Tryd.ntmps3
  go_upto_region 3 with (first
    | (go_at_call 7; have m0 := hb1; refine (hE2.out _ hb1.out).mono ?_; rintro e w2 ⟨v2, rfl, hv2, hbb⟩; have hb2 := Lib.hid (belowT hb1.out hbb); have oX2 := Lib.hid ((hbb.block _ (Array.getElem?_eq_some_iff.1 oX1.out).1).trans oX1.out); have oY2 := Lib.hid ((hbb.block _ (Array.getElem?_eq_some_iff.1 oY1.out).1).trans oY1.out); have hv1 := Lib.hid (hv1.out.below hbb); replace hv2 := Lib.hid hv2)
    | (go_at_call 7; refine (hE1.out _ hBx.out).mono ?_; rintro e w1 ⟨v1, rfl, hv1, hbb⟩; have hb1 := Lib.hid (belowT hBx.out hbb); have oX1 := Lib.hid ((hbb.block _ (Array.getElem?_eq_some_iff.1 oX.out).1).trans oX.out); have oY1 := Lib.hid ((hbb.block _ (Array.getElem?_eq_some_iff.1 oY.out).1).trans oY.out); obtain ⟨yc, -, yl⟩ := obj_cells oY1.out; replace hv1 := Lib.hid hv1))
  have e3 : errQ false = 3 := rfl
  have e0 : errQ true = 0 := rfl
  cases ra
  · go_wp2_with (go_at_call 8; refine (hL.out _ hb2.out).mono ?_; rintro e w3 ⟨rfl, hb3⟩)
    go_ret
    exact ⟨rfl, belowT hb2.out hb3⟩
  · cases rb
    · go_wp2_with (go_at_call 8; refine (hL.out _ hb2.out).mono ?_; rintro e w3 ⟨rfl, hb3⟩)
      go_ret
      exact ⟨rfl, belowT hb2.out hb3⟩
    · obtain rfl : q = Q := hq.out rfl rfl
      clear hq
      have hS0 : TwoR w w.heap.size #[.int .u8 a1, .string ⟨a2.toArray⟩, .string ⟨a3.toArray⟩, .string ⟨a4.toArray⟩, .int .u8 a5, .int .u8 a6, .int .i64 a7, .int .i64 a8, .string ⟨a9.toArray⟩, .bool aa, .string ⟨ab.toArray⟩] #[.int .u8 b1, .string ⟨b2.toArray⟩, .string ⟨b3.toArray⟩, .string ⟨b4.toArray⟩, .int .u8 b5, .int .u8 b6, .int .i64 b7, .int .i64 b8, .string ⟨b9.toArray⟩, .bool ba, .string ⟨bb.toArray⟩] v1 v2 TA TB w2.drew := ⟨(obj_cells oX2.out).1, (obj_cells oY2.out).1, (hv1.out.below (Below.refl _ _).drew), (hv2.out.below (Below.refl _ _).drew), hb2.out.drew, (obj_cells oY2.out).2.2⟩
      replace hS0 := Lib.hid hS0
      go_wp2_with fail
      refine wp_region_float (by kernel_rfl) (by kernel_rfl) (fun W => TwoR w w.heap.size #[.int .u8 a1, .string ⟨a2.toArray⟩, .string ⟨a3.toArray⟩, .string ⟨a4.toArray⟩, .int .u8 a5, .int .u8 a6, .int .i64 a7, .int .i64 a8, .string ⟨a9.toArray⟩, .bool aa, .string ⟨ab.toArray⟩] #[.int .u8 b1, .string ⟨b2.toArray⟩, .string ⟨b3.toArray⟩, .string ⟨b4.toArray⟩, .int .u8 b5, .int .u8 b6, .int .i64 b7, .int .i64 b8, .string ⟨b9.toArray⟩, .bool ba, .string ⟨bb.toArray⟩] v1 v2 TA TB W) hS0.out ?_
      simp only [List.toList_toArray]
      repeat (first
        | (apply Flo.skip; · rfl
           simp only [Act.put, List.setIfInBounds_toArray, List.set_cons_zero, List.set_cons_succ])
        | (apply Flo.val; · rfl
           · (intro W hSw; obtain ⟨h1, h2, h3, h4, h5, h6⟩ := hSw; go_simp; with_reducible rfl)
           simp only [Act.put, List.setIfInBounds_toArray, List.set_cons_zero, List.set_cons_succ])
        | (refine Flo.val (v := .bool q) ?_ ?_ ?_; · rfl
           · (intro W hSw; clear hSw; go_simp; simp only [Int.natCast_inj]; rw [← hQ.out]; (repeat' split); all_goals simp_all)
           simp only [Act.put, List.setIfInBounds_toArray, List.set_cons_zero, List.set_cons_succ])
        | (apply Flo.call; · rfl
           · (intro W hSw; go_simp; first | exact ⟨rfl, rfl⟩ | with_reducible rfl)
           · (intro W hSw
              first
               | (go_at_call 8; exact (hL.out _ hSw.b).mono (fun e w'' h => ⟨h.1, hSw.keep h.2⟩))
               | (go_at_call 9; exact (hSm.out _ _ _ hSw.t1 hSw.t2).mono (fun e w'' h => ⟨h.1, hSw.keep h.2⟩)))
           simp only [Act.put, List.setIfInBounds_toArray, List.set_cons_zero, List.set_cons_succ])
        | fail)
      intro W hSw
      go_wp2_with fail
      go_ret
      exact ⟨by simp, hSw.b⟩
end Go.Proofs.YtmapinediglimaaDoor
