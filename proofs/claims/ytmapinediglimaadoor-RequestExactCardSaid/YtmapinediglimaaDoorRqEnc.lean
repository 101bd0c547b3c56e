/-
  A request's payload, or the error, by the program (request.Encode). Conditions: no text beyond the reach; the library's table of powers of ten is as it was laid.
-/
import Derived.Test.YtmapinediglimaaDoorRqRight
import Derived.Test.YtmapinediglimaaDoorRqTab
import Derived.Test.YtmapinediglimaaDoorRqApp
import Derived.Test.YtmapinediglimaaDoorShelf
import Derived.Test.YtmapinediglimaaDoorWrElem3
import Derived.Test.YtmapinediglimaaDoorOrd
import Derived.Deep.CutBlock
import Derived.WalkSmall
import Derived.Lib.AppendIntMem
namespace Go.Proofs.YtmapinediglimaaDoor
set_option linter.unusedVariables false
set_option linter.unusedSimpArgs false
open Go.RowKit Go.MapKept
attribute [local go_sem] Oper.semAt_some
def errQ (b : Bool) : Int := if b then 0 else 3
def Pow10 (w : World) : Prop := Lib.TabIs Tryd.prog w "internal/strconv.uint64pow10" .u64 Lib.pow10Tab
theorem Pow10.below {w w' : World} (h : Pow10 w) (hb : Below w.heap.size w w') : Pow10 w' :=
  var?_below hb (g := 0) (by kernel_rfl) (cell_lt (Lib.TabIs.cell h (g := 0) (by kernel_rfl) 0 (by decide))) h
def encR (r : Rq) : List Tk := if rightR r then toksR r else []
theorem itoaB (n : Int) (h0 : 0 ≤ n) (h1 : n ≤ 255) (w : World) (hT : Pow10 w) : Calls Tryd.prog 18 #[.int .i64 n] w fun e w' => e = .returned (.string ⟨(Lib.itoa n).toArray⟩) ∧ Below w.heap.size w w' :=
  (Tryd.strconv_Itoa n (by omega) (by omega) w hT).mono fun e w' ⟨h, k, os, h'⟩ => ⟨h, by rw [h']; exact Lib.below_grow _ _ (Nat.le_refl _) _ _⟩
set_option maxRecDepth 100000 in
set_option maxHeartbeats 16000000 in
theorem enc_any (r : Rq) (w : World) (hs : r.small) (hT : Pow10 w) :
    Calls Tryd.prog 7 #[rqV r] w fun e w' => ∃ v, e = .returned (.tuple #[v, .int .i64 (errQ (rightR r))]) ∧ TkS w' v (encR r) ∧ Below w.heap.size w w' := by
  have hR : Hid (∀ W, Below w.heap.size w W → Calls Tryd.prog 12 #[rqV r] W fun e w' => e = .returned (.bool (rightR r)) ∧ Below W.heap.size W w') := Lib.hid fun W hb => rqRight_any r W hs
  cases hr : rightR r
  · have e1 : encR r = [] := by unfold encR; rw [hr]; rfl
    rw [hr] at hR
    rw [e1]
    replace hr := Lib.hid hr
    clear hs e1
    replace hT := Lib.hid hT
    unfold rqV at *
    obtain ⟨vb, nd, it, jd, ro, ac, mx, dp, pa, co, tx⟩ := r
    simp only at *
    go_enter Tryd.func7, Tryd.ntmps7
    go_wp2_with (go_at_call 12; refine (hR.out _ (below1 _ _)).mono ?_; rintro e w1 ⟨rfl, hb⟩; replace hb := Lib.hid hb)
    go_ret2
    exact ⟨_, rfl, tk_nil _ 0 (Nat.zero_le _), below1t hb.out⟩
  · have e1 : encR r = toksR r := by unfold encR; rw [hr]; rfl
    rw [hr] at hR
    obtain ⟨-, hag, hvb, -⟩ := right_parts hr
    rw [e1]
    clear hr e1
    have hat : ∀ tk ∈ insideR r.tx, tk.as.length * 32 ≤ 140737488351232 := fun tk ht => by
      unfold insideR at ht
      split at ht
      · cases ht
      · simp only [List.mem_cons, List.mem_nil_iff, or_false] at ht
        subst ht
        simp
    have hal : (attrsR r).length ≤ 3 := by
      unfold attrsR moreA
      repeat' split
      all_goals simp
    have hil : (insideR r.tx).length ≤ 1 := by unfold insideR; split <;> simp
    have hE1 : Hid (∀ W v6 v4, TkS W v6 (insideR r.tx) → AtS W v4 (attrsR r) → Calls Tryd.prog 20 #[.string ⟨(verbL r.vb).toArray⟩, v4, v6] W fun e w' => ∃ v, e = .returned v ∧ TkS w' v (elemL (verbL r.vb) (attrsR r) (insideR r.tx)) ∧ Below W.heap.size W w') :=
      Lib.hid fun W v6 v4 h6 h4 => element_any _ _ _ _ _ W h4 (by omega) h6 (by omega) hat
    have hE2 : Hid (∀ W v7, TkS W v7 (elemL (verbL r.vb) (attrsR r) (insideR r.tx)) → Calls Tryd.prog 20 #[.string ⟨#[112, 117, 98, 115, 117, 98]⟩, .slice none 0 0, v7] W fun e w' => ∃ v, e = .returned v ∧ TkS w' v (toksR r) ∧ Below W.heap.size W w') :=
      Lib.hid fun W v7 h7 => element_any pubsubW _ _ [] _ W (at_nil _ 0 (Nat.zero_le _)) (by simp) h7 (by simp [elemL]; omega) (fun tk ht => by
        unfold elemL at ht
        simp only [List.mem_cons, List.mem_append, List.mem_nil_iff, or_false] at ht
        rcases ht with rfl | ht | rfl
        · simp only; omega
        · exact hat tk ht
        · simp)
    have hIn : Hid (∀ W, Calls Tryd.prog 22 #[.string ⟨r.tx.toArray⟩] W fun e w' => ∃ v, e = .returned v ∧ TkS w' v (insideR r.tx) ∧ Below W.heap.size W w') := Lib.hid fun W => inside_any _ W
    have hV : Hid (∀ W, Calls Tryd.prog 21 #[.int .u8 r.vb] W fun e w' => e = .returned (.string ⟨(verbL r.vb).toArray⟩) ∧ Below W.heap.size W w') := Lib.hid fun W => verb_any _ W
    clear hs hat hal hil
    generalize hiv : insideR r.tx = IV at hE1 hE2 hIn
    generalize hto : toksR r = TO at hE2 ⊢
    clear hiv hto
    have hAA : Hid (attrsR r = (nodeW, r.nd) :: moreA r) := rfl
    generalize attrsR r = AA at hE1 hE2 hAA
    generalize hvl : verbL r.vb = VL at hE1 hE2 hV
    clear hvl
    unfold rqV at *
    obtain ⟨vb, nd, it, jd, ro, ac, mx, dp, pa, co, tx⟩ := r
    simp only at *
    replace hT := Lib.hid hT
    replace hag := Lib.hid hag
    replace hvb := Lib.hid hvb
    go_enter Tryd.func7, Tryd.ntmps7
    go_upto_region 3 with (go_at_call 12; refine (hR.out _ (below1 _ _)).mono ?_; rintro e w1 ⟨rfl, hb⟩; obtain ⟨hc, hf⟩ := bat hb w.heap.size (by simp); have hob := Lib.hid ((hb.block w.heap.size (by simp)).trans (heap_alloc w _).1); replace hb := Lib.hid hb)
    go_cut [4] (fun v4 W => ∃ g, v4 = .slice (some ⟨g, 0, none⟩) 1 1 ∧ W.heap[g]? = some (.cells #[.string ⟨nodeW.toArray⟩, .string ⟨nd.toArray⟩] 35) ∧ W.heap[w.heap.size]? = some (.cells #[.int .u8 vb, .string ⟨nd.toArray⟩, .string ⟨it.toArray⟩, .string ⟨jd.toArray⟩, .int .u8 ro, .int .u8 ac, .int .i64 mx, .int .i64 dp, .string ⟨pa.toArray⟩, .bool co, .string ⟨tx.toArray⟩] 26) ∧ Below w.heap.size w W)
    case first =>
      go_wp2_with (go_at_call 15; refine (rqAttr_any _ _ _).mono ?_; rintro e w2 ⟨rfl, o2, rfl⟩)
      go_meet
      exact ⟨_, rfl, (by have := (heap_alloc (w1.alloc o2) (.cells #[.string ⟨nodeW.toArray⟩, .string ⟨nd.toArray⟩] 35)).1; rwa [World.size_alloc] at this), obj_alloc (obj_alloc hob.out), ((below1t hb.out).alloc (below1t hb.out).size _).alloc (Nat.le_trans (below1t hb.out).size (by simp)) _⟩
    case rest =>
      clear hR
      obtain ⟨g, rfl, oG, oB, hB⟩ := hcut
      obtain ⟨xc, xf, xl⟩ := obj_cells oB
      replace oG := Lib.hid oG
      replace oB := Lib.hid oB
      replace hB := Lib.hid hB
      have hTc := Lib.hid (hT.out.below hB.out)
      go_upto_block 0 with (fail)
      go_cut [4] (fun v4 W => AtS W v4 AA ∧ Below wc.heap.size wc W)
      case first =>
        have hLd : Hid (∀ W, Below wc.drew.heap.size wc.drew W → ∀ i, W.cell? ⟨w.heap.size, i, none⟩ = #[.int .u8 vb, .string ⟨nd.toArray⟩, .string ⟨it.toArray⟩, .string ⟨jd.toArray⟩, .int .u8 ro, .int .u8 ac, .int .i64 mx, .int .i64 dp, .string ⟨pa.toArray⟩, .bool co, .string ⟨tx.toArray⟩][i]?) := Lib.hid fun W hb i => by rw [← xc i]; exact hb.cell (p := ⟨w.heap.size, i, none⟩) xl
        rcases vb_cases hvb.out with rfl | rfl | rfl | rfl | rfl | rfl | rfl | rfl | rfl | rfl | rfl | rfl | rfl | rfl | rfl
        · have kk1 : w.heap.size < wc.heap.size + 1 := by omega
          have kk2 : w.heap.size < wc.heap.size + 1 + 1 := by omega
          have kk3 : w.heap.size < wc.heap.size + 1 + 1 + 1 := by omega
          have kk4 : w.heap.size < wc.heap.size + 1 + 1 + 1 + 1 := by omega
          have hi0 := ixtypes0 ⟨leafW.toArray⟩ ⟨collectionW.toArray⟩
          have hi1 := ixtypes1 ⟨leafW.toArray⟩ ⟨collectionW.toArray⟩
          cases co
          · go_wp2_with (first
              | (have m0 := hrun; at_builtin; refine wpList_append_ok _ _ rfl _ _ 36 rfl _ _ _ rfl rfl hrun.out ?_)
              | (go_at_call 15; refine (rqAttr_any _ _ _).mono ?_; rintro e w2 ⟨rfl, o2, rfl⟩; obtain ⟨cap, cur, hrun, hAt⟩ := append_new ((((wc.alloc oT).alloc o2).alloc (.cells (atCells [(typeW, leafW)]).toArray 35))) g _ 1 nodeW nd [(typeW, leafW)] (by simp) (by simp) (obj_alloc (obj_alloc (obj_alloc oG.out))) (heap_alloc _ _).1; simp only [World.size_alloc, szD] at hrun hAt; replace hrun := Lib.hid hrun; replace hAt := Lib.hid hAt)
              | (go_at_call 16; refine (types_any _).mono ?_; rintro e wT ⟨rfl, oT, rfl⟩))
            go_meet
            exact ⟨by rw [hAA.out]; exact hAt.out, ((((below1 wc _).alloc (by simp) _).alloc (by simp <;> omega) _).drew).alloc (by simp <;> omega) _⟩
          · go_wp2_with (first
              | (have m0 := hrun; at_builtin; refine wpList_append_ok _ _ rfl _ _ 36 rfl _ _ _ rfl rfl hrun.out ?_)
              | (go_at_call 15; refine (rqAttr_any _ _ _).mono ?_; rintro e w2 ⟨rfl, o2, rfl⟩; obtain ⟨cap, cur, hrun, hAt⟩ := append_new ((((wc.alloc oT).alloc o2).alloc (.cells (atCells [(typeW, leafW)]).toArray 35))) g _ 1 nodeW nd [(typeW, leafW)] (by simp) (by simp) (obj_alloc (obj_alloc (obj_alloc oG.out))) (heap_alloc _ _).1; simp only [World.size_alloc, szD] at hrun hAt; replace hrun := Lib.hid hrun; replace hAt := Lib.hid hAt; have hcur := set_curG hAt.out (by simp))
              | (go_at_call 16; have m0 := hrun; refine (types_any _).mono ?_; rintro e wT ⟨rfl, oT2, rfl⟩)
              | (go_at_call 16; refine (types_any _).mono ?_; rintro e wT ⟨rfl, oT, rfl⟩))
            go_meet
            exact ⟨by rw [hAA.out]; exact (((hAt.out.heq rfl).setN (by simp)).below (below1 _ oT2)).heq rfl, ((((((below1 wc _).alloc (by simp) _).alloc (by simp <;> omega) _).alloc (by simp <;> omega) _).alloc (by simp <;> omega) _).drew)⟩
        · go_wp2_with fail
          go_meet
          exact ⟨by rw [hAA.out]; exact at_one _ g (obj_cells oG.out).2.2 1 (Nat.le_refl _) (by unfold maxLen; omega) _ _ ((obj_cells oG.out).1 0) ((obj_cells oG.out).1 1), Below.refl _ _⟩
        · have hd := hag.out
          simp only [argsR, reduceIte, Nat.reduceEqDiff, Bool.and_eq_true, decide_eq_true_eq] at hd
          obtain ⟨⟨d2, d0⟩, d1⟩ := hd
          have hix := fun W => ixaccesses ac (by omega) W
          go_wp2_with fail
          refine wp_region_ord [0, 2, 3, 4, 6, 7, 12] [0, 2, 3, 6, 7, 1, 4, 5, 8, 9, 10, 11, 12] (by kernel_rfl) (by kernel_rfl) ?_
          repeat (first
            | (apply OrdRun.val
               · rfl
               · (simp only [List.getElem?_toArray, List.getElem?_cons_zero, List.getElem?_cons_succ]; exact rfl)
               · (intro Wx; rfl)
               · rfl
               · (intro Wx hWx; first | (go_simp; done) | (go_simp; with_reducible rfl) | (have hcx := hLd.out Wx hWx; go_simp; with_reducible rfl))
               simp only [Act.put, List.setIfInBounds_toArray, List.set_cons_zero, List.set_cons_succ]))
          apply OrdRun.drive
          · rfl
          · (simp only [List.getElem?_toArray, List.getElem?_cons_zero, List.getElem?_cons_succ]; exact rfl)
          gi_wp2_with (refine ⟨trivial, rfl, callsIn_wide.2 ?_⟩; go_at_call 17; refine (accesses_any _).mono ?_; rintro e w2 ⟨rfl, oT, rfl⟩)
          first | refine And.intro (belowAD _ _ (by simp)) ?_ | refine And.intro (belowA1 _ _ (by simp)) ?_ | refine And.intro (belowDA _ _ (by simp)) ?_ | refine And.intro (below1 _ _) ?_ | refine And.intro (by simpa using below1 _ _) ?_ | skip
          repeat (first
            | (apply OrdRun.val
               · rfl
               · (simp only [List.getElem?_toArray, List.getElem?_cons_zero, List.getElem?_cons_succ]; exact rfl)
               · (intro Wx; rfl)
               · rfl
               · (intro Wx hWx; first | (go_simp; done) | (go_simp; with_reducible rfl) | (have hcx := hLd.out Wx hWx; go_simp; with_reducible rfl))
               simp only [Act.put, List.setIfInBounds_toArray, List.set_cons_zero, List.set_cons_succ]))
          apply OrdRun.drive
          · rfl
          · (simp only [List.getElem?_toArray, List.getElem?_cons_zero, List.getElem?_cons_succ]; exact rfl)
          gi_wp2_with (refine ⟨trivial, rfl, callsIn_wide.2 ?_⟩; go_at_call 15; refine (rqAttr_any _ _ _).mono ?_; rintro e w2 ⟨rfl, o2, rfl⟩)
          first | refine And.intro (belowAD _ _ (by simp)) ?_ | refine And.intro (belowA1 _ _ (by simp)) ?_ | refine And.intro (belowDA _ _ (by simp)) ?_ | refine And.intro (below1 _ _) ?_ | refine And.intro (by simpa using below1 _ _) ?_ | skip
          apply OrdRun.drive
          · rfl
          · (simp only [List.getElem?_toArray, List.getElem?_cons_zero, List.getElem?_cons_succ]; exact rfl)
          gi_wp2_with (refine ⟨trivial, rfl, callsIn_wide.2 ?_⟩; go_at_call 18; refine (itoaB mx d0 (by omega) _ (hTc.out.below (((below1 wc oT).alloc (by simp) o2).drew))).mono ?_; rintro e w3 ⟨rfl, hb3⟩)
          first | refine And.intro (belowAD _ _ (by simp)) ?_ | refine And.intro (belowA1 _ _ (by simp)) ?_ | refine And.intro (belowDA _ _ (by simp)) ?_ | refine And.intro (hb3) ?_ | refine And.intro (by simpa using hb3) ?_ | skip
          have hb3h := Lib.hid hb3
          apply OrdRun.drive
          · rfl
          · (simp only [List.getElem?_toArray, List.getElem?_cons_zero, List.getElem?_cons_succ]; exact rfl)
          gi_wp2_with (refine ⟨trivial, rfl, callsIn_wide.2 ?_⟩; go_at_call 15; refine (rqAttr_any _ _ _).mono ?_; rintro e w4 ⟨rfl, o4, rfl⟩)
          first | refine And.intro (belowAD _ _ (by simp)) ?_ | refine And.intro (belowA1 _ _ (by simp)) ?_ | refine And.intro (belowDA _ _ (by simp)) ?_ | refine And.intro (below1 _ _) ?_ | refine And.intro (by simpa using below1 _ _) ?_ | skip
          have hgl := (obj_cells oG.out).2.2
          have oG3 := (hb3h.out.block g (by simp <;> omega)).trans (obj_alloc (obj_alloc oG.out) : ((wc.alloc oT).alloc o2).drew.heap[g]? = _)
          apply OrdRun.drive
          · rfl
          · (simp only [List.getElem?_toArray, List.getElem?_cons_zero, List.getElem?_cons_succ]; exact rfl)
          gi_wp2_with (fail)
          first | refine And.intro (belowAD _ _ (by simp)) ?_ | refine And.intro (belowA1 _ _ (by simp)) ?_ | refine And.intro (belowDA _ _ (by simp)) ?_ | refine And.intro (below1 _ _) ?_ | refine And.intro (by simpa using below1 _ _) ?_ | skip
          obtain ⟨cap, cur, hrun, hAt⟩ := append_new (((w3.alloc o4).alloc (.cells (atCells [(accessW, accL ac), (maxW, Lib.itoa mx)]).toArray 35))) g _ 2 nodeW nd [(accessW, accL ac), (maxW, Lib.itoa mx)] (by simp) (by simp) (obj_alloc (obj_alloc oG3)) (heap_alloc _ _).1
          simp only [World.size_alloc, szD] at hrun hAt
          replace hrun := Lib.hid hrun
          replace hAt := Lib.hid hAt
          apply OrdRun.drive
          · rfl
          · (simp only [List.getElem?_toArray, List.getElem?_cons_zero, List.getElem?_cons_succ]; exact rfl)
          gi_wp2_with (gi_at_builtin; refine wpListIn_append_ok _ _ rfl _ _ 36 rfl _ _ _ rfl rfl hrun.out ?_)
          first | refine And.intro (belowAD _ _ (by simp)) ?_ | refine And.intro (belowA1 _ _ (by simp)) ?_ | refine And.intro (belowDA _ _ (by simp)) ?_ | refine And.intro (((Below.refl _ _).drew).alloc (Nat.le_refl _) _) ?_ | refine And.intro (by simpa using ((Below.refl _ _).drew).alloc (Nat.le_refl _) _) ?_ | skip
          repeat (first
            | (apply OrdRun.val
               · rfl
               · (simp only [List.getElem?_toArray, List.getElem?_cons_zero, List.getElem?_cons_succ]; exact rfl)
               · (intro Wx; rfl)
               · rfl
               · (intro Wx hWx; first | (go_simp; done) | (go_simp; with_reducible rfl) | (have hcx := hLd.out Wx hWx; go_simp; with_reducible rfl))
               simp only [Act.put, List.setIfInBounds_toArray, List.set_cons_zero, List.set_cons_succ]))
          refine OrdRun.nil ?_
          go_wp2_with fail
          go_meet
          exact ⟨by rw [hAA.out]; exact hAt.out, (((belowT (((below1 wc oT).alloc (by simp) o2).drew) hb3h.out).alloc (by have := hb3h.out.size; simp at this; omega) _).alloc (by have := hb3h.out.size; simp at this ⊢; omega) _).drew.alloc (by have := hb3h.out.size; simp at this ⊢; omega) _⟩
        · have hd := hag.out
          simp only [argsR, reduceIte, Nat.reduceEqDiff, Bool.and_eq_true, decide_eq_true_eq] at hd
          obtain ⟨d0, d1⟩ := hd
          go_wp2_with (first
            | (have m0 := hrun; at_builtin; refine wpList_append_ok _ _ rfl _ _ 36 rfl _ _ _ rfl rfl hrun.out ?_)
            | (go_at_call 15; have m1 := hb2; refine (rqAttr_any _ _ _).mono ?_; rintro e w3 ⟨rfl, o3, rfl⟩; obtain ⟨cap, cur, hrun, hAt⟩ := append_new (((w2.alloc o3).alloc (.cells (atCells [(depthW, Lib.itoa dp)]).toArray 35))) g _ 1 nodeW nd [(depthW, Lib.itoa dp)] (by simp) (by simp) (obj_alloc (obj_alloc ((hb2.out.block g (obj_cells oG.out).2.2).trans oG.out))) (heap_alloc _ _).1; simp only [World.size_alloc, szD] at hrun hAt; replace hrun := Lib.hid hrun; replace hAt := Lib.hid hAt)
            | (go_at_call 18; refine (itoaB dp d0 d1 _ hTc.out).mono ?_; rintro e w2 ⟨rfl, hb2⟩; replace hb2 := Lib.hid hb2))
          go_meet
          exact ⟨by rw [hAA.out]; exact hAt.out, ((((hb2.out.alloc hb2.out.size _).alloc (Nat.le_trans hb2.out.size (by simp)) _).drew).alloc (Nat.le_trans hb2.out.size (by simp <;> omega)) _)⟩
        · go_wp2_with fail
          go_meet
          exact ⟨by rw [hAA.out]; exact at_one _ g (obj_cells oG.out).2.2 1 (Nat.le_refl _) (by unfold maxLen; omega) _ _ ((obj_cells oG.out).1 0) ((obj_cells oG.out).1 1), Below.refl _ _⟩
        · go_wp2_with (first
            | (have m0 := hrun; at_builtin; refine wpList_append_ok _ _ rfl _ _ 36 rfl _ _ _ rfl rfl hrun.out ?_)
            | (go_at_call 15; refine (rqAttr_any _ _ _).mono ?_; rintro e w2 ⟨rfl, o2, rfl⟩; obtain ⟨cap, cur, hrun, hAt⟩ := append_new (((wc.alloc o2).alloc (.cells (atCells [(jidW, jd)]).toArray 35))) g _ 1 nodeW nd [(jidW, jd)] (by simp) (by simp) (obj_alloc (obj_alloc oG.out)) (heap_alloc _ _).1; simp only [World.size_alloc, szD] at hrun hAt; replace hrun := Lib.hid hrun; replace hAt := Lib.hid hAt))
          go_meet
          exact ⟨by rw [hAA.out]; exact hAt.out, (((below1 wc _).alloc (by simp) _).drew).alloc (by simp <;> omega) _⟩
        · go_wp2_with (first
            | (have m0 := hrun; at_builtin; refine wpList_append_ok _ _ rfl _ _ 36 rfl _ _ _ rfl rfl hrun.out ?_)
            | (go_at_call 15; refine (rqAttr_any _ _ _).mono ?_; rintro e w2 ⟨rfl, o2, rfl⟩; obtain ⟨cap, cur, hrun, hAt⟩ := append_new (((wc.alloc o2).alloc (.cells (atCells [(jidW, jd)]).toArray 35))) g _ 1 nodeW nd [(jidW, jd)] (by simp) (by simp) (obj_alloc (obj_alloc oG.out)) (heap_alloc _ _).1; simp only [World.size_alloc, szD] at hrun hAt; replace hrun := Lib.hid hrun; replace hAt := Lib.hid hAt))
          go_meet
          exact ⟨by rw [hAA.out]; exact hAt.out, (((below1 wc _).alloc (by simp) _).drew).alloc (by simp <;> omega) _⟩
        · have hd := hag.out
          simp only [argsR, reduceIte, Nat.reduceEqDiff, Bool.and_eq_true, decide_eq_true_eq] at hd
          obtain ⟨⟨d0, d1⟩, -⟩ := hd
          have hix := fun W => ixroles ro (by omega) W
          have hgl := (obj_cells oG.out).2.2
          go_wp2_with fail
          refine wp_region_ord [0, 1, 2, 5, 6, 7, 11] [0, 1, 2, 5, 6, 3, 4, 7, 8, 9, 10, 11] (by kernel_rfl) (by kernel_rfl) ?_
          repeat (first
            | (apply OrdRun.val
               · rfl
               · (simp only [List.getElem?_toArray, List.getElem?_cons_zero, List.getElem?_cons_succ]; exact rfl)
               · (intro Wx; rfl)
               · rfl
               · (intro Wx hWx; first | (go_simp; done) | (go_simp; with_reducible rfl) | (have hcx := hLd.out Wx hWx; go_simp; with_reducible rfl))
               simp only [Act.put, List.setIfInBounds_toArray, List.set_cons_zero, List.set_cons_succ]))
          apply OrdRun.drive
          · rfl
          · (simp only [List.getElem?_toArray, List.getElem?_cons_zero, List.getElem?_cons_succ]; exact rfl)
          gi_wp2_with (refine ⟨trivial, rfl, callsIn_wide.2 ?_⟩; go_at_call 15; refine (rqAttr_any _ _ _).mono ?_; rintro e w2 ⟨rfl, o1, rfl⟩)
          first | refine And.intro (belowAD _ _ (by simp)) ?_ | refine And.intro (belowA1 _ _ (by simp)) ?_ | refine And.intro (belowDA _ _ (by simp)) ?_ | refine And.intro (below1 _ _) ?_ | refine And.intro (by simpa using below1 _ _) ?_ | skip
          apply OrdRun.drive
          · rfl
          · (simp only [List.getElem?_toArray, List.getElem?_cons_zero, List.getElem?_cons_succ]; exact rfl)
          gi_wp2_with (refine ⟨trivial, rfl, callsIn_wide.2 ?_⟩; go_at_call 19; refine (roles_any _).mono ?_; rintro e w2 ⟨rfl, oT, rfl⟩)
          first | refine And.intro (belowAD _ _ (by simp)) ?_ | refine And.intro (belowA1 _ _ (by simp)) ?_ | refine And.intro (belowDA _ _ (by simp)) ?_ | refine And.intro (below1 _ _) ?_ | refine And.intro (by simpa using below1 _ _) ?_ | skip
          repeat (first
            | (apply OrdRun.val
               · rfl
               · (simp only [List.getElem?_toArray, List.getElem?_cons_zero, List.getElem?_cons_succ]; exact rfl)
               · (intro Wx; rfl)
               · rfl
               · (intro Wx hWx; first | (go_simp; done) | (go_simp; with_reducible rfl) | (have hcx := hLd.out Wx hWx; go_simp; with_reducible rfl))
               simp only [Act.put, List.setIfInBounds_toArray, List.set_cons_zero, List.set_cons_succ]))
          apply OrdRun.drive
          · rfl
          · (simp only [List.getElem?_toArray, List.getElem?_cons_zero, List.getElem?_cons_succ]; exact rfl)
          gi_wp2_with (refine ⟨trivial, rfl, callsIn_wide.2 ?_⟩; go_at_call 15; refine (rqAttr_any _ _ _).mono ?_; rintro e w2 ⟨rfl, o2, rfl⟩)
          first | refine And.intro (belowAD _ _ (by simp)) ?_ | refine And.intro (belowA1 _ _ (by simp)) ?_ | refine And.intro (belowDA _ _ (by simp)) ?_ | refine And.intro (below1 _ _) ?_ | refine And.intro (by simpa using below1 _ _) ?_ | skip
          apply OrdRun.drive
          · rfl
          · (simp only [List.getElem?_toArray, List.getElem?_cons_zero, List.getElem?_cons_succ]; exact rfl)
          gi_wp2_with (fail)
          first | refine And.intro (belowAD _ _ (by simp)) ?_ | refine And.intro (belowA1 _ _ (by simp)) ?_ | refine And.intro (belowDA _ _ (by simp)) ?_ | refine And.intro (below1 _ _) ?_ | refine And.intro (by simpa using below1 _ _) ?_ | skip
          obtain ⟨cap, cur, hrun, hAt⟩ := append_new ((((((wc.alloc o1).alloc oT).alloc o2)).alloc (.cells (atCells [(jidW, jd), (roleW, roleL ro)]).toArray 35)).drew) g _ 2 nodeW nd [(jidW, jd), (roleW, roleL ro)] (by simp) (by simp) (obj_alloc (obj_alloc (obj_alloc (obj_alloc oG.out)))) (heap_alloc _ _).1
          simp only [World.size_alloc, szD] at hrun hAt
          replace hrun := Lib.hid hrun
          replace hAt := Lib.hid hAt
          apply OrdRun.drive
          · rfl
          · (simp only [List.getElem?_toArray, List.getElem?_cons_zero, List.getElem?_cons_succ]; exact rfl)
          gi_wp2_with (gi_at_builtin; refine wpListIn_append_ok _ _ rfl _ _ 36 rfl _ _ _ rfl rfl hrun.out ?_)
          first | refine And.intro (belowAD _ _ (by simp)) ?_ | refine And.intro (belowA1 _ _ (by simp)) ?_ | refine And.intro (belowDA _ _ (by simp)) ?_ | refine And.intro (((Below.refl _ _).drew).alloc (Nat.le_refl _) _) ?_ | refine And.intro (by simpa using ((Below.refl _ _).drew).alloc (Nat.le_refl _) _) ?_ | skip
          repeat (first
            | (apply OrdRun.val
               · rfl
               · (simp only [List.getElem?_toArray, List.getElem?_cons_zero, List.getElem?_cons_succ]; exact rfl)
               · (intro Wx; rfl)
               · rfl
               · (intro Wx hWx; first | (go_simp; done) | (go_simp; with_reducible rfl) | (have hcx := hLd.out Wx hWx; go_simp; with_reducible rfl))
               simp only [Act.put, List.setIfInBounds_toArray, List.set_cons_zero, List.set_cons_succ]))
          refine OrdRun.nil ?_
          go_wp2_with fail
          go_meet
          exact ⟨by rw [hAA.out]; exact hAt.out, ((((((below1 wc o1).alloc (by simp) oT).alloc (by simp <;> omega) o2).alloc (by simp <;> omega) _).drew).drew).alloc (by simp <;> omega) _⟩
        · go_wp2_with (first
            | (have m0 := hrun; at_builtin; refine wpList_append_ok _ _ rfl _ _ 36 rfl _ _ _ rfl rfl hrun.out ?_)
            | (go_at_call 15; refine (rqAttr_any _ _ _).mono ?_; rintro e w2 ⟨rfl, o2, rfl⟩; obtain ⟨cap, cur, hrun, hAt⟩ := append_new (((wc.alloc o2).alloc (.cells (atCells [(itemW, it)]).toArray 35))) g _ 1 nodeW nd [(itemW, it)] (by simp) (by simp) (obj_alloc (obj_alloc oG.out)) (heap_alloc _ _).1; simp only [World.size_alloc, szD] at hrun hAt; replace hrun := Lib.hid hrun; replace hAt := Lib.hid hAt))
          go_meet
          exact ⟨by rw [hAA.out]; exact hAt.out, (((below1 wc _).alloc (by simp) _).drew).alloc (by simp <;> omega) _⟩
        · go_wp2_with (first
            | (have m0 := hrun; at_builtin; refine wpList_append_ok _ _ rfl _ _ 36 rfl _ _ _ rfl rfl hrun.out ?_)
            | (go_at_call 15; refine (rqAttr_any _ _ _).mono ?_; rintro e w2 ⟨rfl, o2, rfl⟩; obtain ⟨cap, cur, hrun, hAt⟩ := append_new (((wc.alloc o2).alloc (.cells (atCells [(itemW, it)]).toArray 35))) g _ 1 nodeW nd [(itemW, it)] (by simp) (by simp) (obj_alloc (obj_alloc oG.out)) (heap_alloc _ _).1; simp only [World.size_alloc, szD] at hrun hAt; replace hrun := Lib.hid hrun; replace hAt := Lib.hid hAt))
          go_meet
          exact ⟨by rw [hAA.out]; exact hAt.out, (((below1 wc _).alloc (by simp) _).drew).alloc (by simp <;> omega) _⟩
        · go_wp2_with fail
          go_meet
          exact ⟨by rw [hAA.out]; exact at_one _ g (obj_cells oG.out).2.2 1 (Nat.le_refl _) (by unfold maxLen; omega) _ _ ((obj_cells oG.out).1 0) ((obj_cells oG.out).1 1), Below.refl _ _⟩
        · go_wp2_with fail
          go_meet
          exact ⟨by rw [hAA.out]; exact at_one _ g (obj_cells oG.out).2.2 1 (Nat.le_refl _) (by unfold maxLen; omega) _ _ ((obj_cells oG.out).1 0) ((obj_cells oG.out).1 1), Below.refl _ _⟩
        · go_wp2_with (first
            | (have m0 := hrun; at_builtin; refine wpList_append_ok _ _ rfl _ _ 36 rfl _ _ _ rfl rfl hrun.out ?_)
            | (go_at_call 15; refine (rqAttr_any _ _ _).mono ?_; rintro e w2 ⟨rfl, o2, rfl⟩; obtain ⟨cap, cur, hrun, hAt⟩ := append_new (((wc.alloc o2).alloc (.cells (atCells [(parentW, pa)]).toArray 35))) g _ 1 nodeW nd [(parentW, pa)] (by simp) (by simp) (obj_alloc (obj_alloc oG.out)) (heap_alloc _ _).1; simp only [World.size_alloc, szD] at hrun hAt; replace hrun := Lib.hid hrun; replace hAt := Lib.hid hAt))
          go_meet
          exact ⟨by rw [hAA.out]; exact hAt.out, (((below1 wc _).alloc (by simp) _).drew).alloc (by simp <;> omega) _⟩
        · go_wp2_with fail
          go_meet
          exact ⟨by rw [hAA.out]; exact at_one _ g (obj_cells oG.out).2.2 1 (Nat.le_refl _) (by unfold maxLen; omega) _ _ ((obj_cells oG.out).1 0) ((obj_cells oG.out).1 1), Below.refl _ _⟩
        · go_wp2_with fail
          go_meet
          exact ⟨by rw [hAA.out]; exact at_one _ g (obj_cells oG.out).2.2 1 (Nat.le_refl _) (by unfold maxLen; omega) _ _ ((obj_cells oG.out).1 0) ((obj_cells oG.out).1 1), Below.refl _ _⟩
      case rest =>
        clear hag hvb hAA hTc xc xf xl
        have hBc := hB.out
        have hob := oB.out
        clear oG oB hB hT
        obtain ⟨hA, hbW⟩ := hcut
        obtain ⟨p4, n4, c4, rfl⟩ : ∃ a n c, u4 = .slice a n c := by obtain ⟨a, c, h, -⟩ := hA; exact ⟨a, _, c, h⟩
        have hBx := belowT hBc hbW
        have hLd : Hid (∀ W, Below wc.drew.heap.size wc.drew W → ∀ i, W.cell? ⟨w.heap.size, i, none⟩ = #[.int .u8 vb, .string ⟨nd.toArray⟩, .string ⟨it.toArray⟩, .string ⟨jd.toArray⟩, .int .u8 ro, .int .u8 ac, .int .i64 mx, .int .i64 dp, .string ⟨pa.toArray⟩, .bool co, .string ⟨tx.toArray⟩][i]?) := Lib.hid fun W hb i => by
          have h1 := (hbW.block _ (Array.getElem?_eq_some_iff.1 hob).1).trans hob
          rw [← (obj_cells h1).1 i]
          exact hb.cell (p := ⟨w.heap.size, i, none⟩) (obj_cells h1).2.2
        clear hbW hBc hob
        replace hA := Lib.hid hA
        replace hBx := Lib.hid hBx
        go_wp2_with fail
        refine wp_region_ord [0, 1, 3, 4, 5, 9, 10] [0, 1, 3, 4, 5, 2, 6, 7, 8, 9, 10] (by kernel_rfl) (by kernel_rfl) ?_
        repeat (first
          | (apply OrdRun.val
             · rfl
             · (simp only [List.getElem?_toArray, List.getElem?_cons_zero, List.getElem?_cons_succ]; exact rfl)
             · (intro Wx; rfl)
             · rfl
             · (intro Wx hWx; first | (go_simp; done) | (go_simp; with_reducible rfl) | (have hcx := hLd.out Wx hWx; go_simp; with_reducible rfl))
             simp only [Act.put, List.setIfInBounds_toArray, List.set_cons_zero, List.set_cons_succ]))
        apply OrdRun.drive
        · rfl
        · (simp only [List.getElem?_toArray, List.getElem?_cons_zero, List.getElem?_cons_succ]; exact rfl)
        gi_wp2_with (refine ⟨trivial, rfl, callsIn_wide.2 ?_⟩; go_at_call 21; refine (hV.out _).mono ?_; rintro e w2 ⟨rfl, hb2⟩)
        first | refine And.intro (belowAD _ _ (by simp)) ?_ | refine And.intro (belowA1 _ _ (by simp)) ?_ | refine And.intro (belowDA _ _ (by simp)) ?_ | refine And.intro (hb2) ?_ | refine And.intro (by simpa using hb2) ?_ | skip
        have hb2h := Lib.hid hb2
        have hA2 := Lib.hid ((hA.out.below (Below.refl _ _).drew).below hb2)
        apply OrdRun.drive
        · rfl
        · (simp only [List.getElem?_toArray, List.getElem?_cons_zero, List.getElem?_cons_succ]; exact rfl)
        gi_wp2_with (refine ⟨trivial, rfl, callsIn_wide.2 ?_⟩; go_at_call 22; refine (hIn.out _).mono ?_; rintro e w3 ⟨v6, rfl, hv6, hb3⟩)
        first | refine And.intro (belowAD _ _ (by simp)) ?_ | refine And.intro (belowA1 _ _ (by simp)) ?_ | refine And.intro (belowDA _ _ (by simp)) ?_ | refine And.intro (hb3) ?_ | refine And.intro (by simpa using hb3) ?_ | skip
        have hb3h := Lib.hid hb3
        have hA3 := Lib.hid (hA2.out.below hb3)
        replace hv6 := Lib.hid hv6
        apply OrdRun.drive
        · rfl
        · (simp only [List.getElem?_toArray, List.getElem?_cons_zero, List.getElem?_cons_succ]; exact rfl)
        gi_wp2_with (refine ⟨trivial, rfl, callsIn_wide.2 ?_⟩; go_at_call 20; refine (hE1.out _ _ _ hv6.out hA3.out).mono ?_; rintro e w4 ⟨v7, rfl, hv7, hb4⟩)
        first | refine And.intro (belowAD _ _ (by simp)) ?_ | refine And.intro (belowA1 _ _ (by simp)) ?_ | refine And.intro (belowDA _ _ (by simp)) ?_ | refine And.intro (hb4) ?_ | refine And.intro (by simpa using hb4) ?_ | skip
        have hb4h := Lib.hid hb4
        replace hv7 := Lib.hid hv7
        apply OrdRun.drive
        · rfl
        · (simp only [List.getElem?_toArray, List.getElem?_cons_zero, List.getElem?_cons_succ]; exact rfl)
        gi_wp2_with (refine ⟨trivial, rfl, callsIn_wide.2 ?_⟩; go_at_call 20; refine (hE2.out _ _ hv7.out).mono ?_; rintro e w5 ⟨v8, rfl, hv8, hb5⟩)
        first | refine And.intro (belowAD _ _ (by simp)) ?_ | refine And.intro (belowA1 _ _ (by simp)) ?_ | refine And.intro (belowDA _ _ (by simp)) ?_ | refine And.intro (hb5) ?_ | refine And.intro (by simpa using hb5) ?_ | skip
        repeat (first
          | (apply OrdRun.val
             · rfl
             · (simp only [List.getElem?_toArray, List.getElem?_cons_zero, List.getElem?_cons_succ]; exact rfl)
             · (intro Wx; rfl)
             · rfl
             · (intro Wx hWx; first | (go_simp; done) | (go_simp; with_reducible rfl) | (have hcx := hLd.out Wx hWx; go_simp; with_reducible rfl))
             simp only [Act.put, List.setIfInBounds_toArray, List.set_cons_zero, List.set_cons_succ]))
        refine OrdRun.nil ?_
        go_wp2
        go_ret2
        exact ⟨_, rfl, hv8, belowT (belowT (belowT (belowT (hBx.out.drew) hb2h.out) hb3h.out) hb4h.out) hb5⟩
end Go.Proofs.YtmapinediglimaaDoor
