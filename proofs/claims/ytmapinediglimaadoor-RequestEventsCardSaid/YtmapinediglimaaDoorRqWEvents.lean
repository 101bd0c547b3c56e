/-
  The walk of RequestEvents: a notification of an item tells its node, its id and its text. Conditions: no text beyond the reach; the library's variables are as they were laid.
-/
import Derived.Test.YtmapinediglimaaDoorRqLive
import Derived.Test.YtmapinediglimaaDoorRqP2
import Derived.Test.YtmapinediglimaaDoorRfAll
import Derived.Test.YtmapinediglimaaDoorRqEvent
import Derived.Test.YtmapinediglimaaDoorWrRefAttr
namespace Go.Proofs.YtmapinediglimaaDoor
set_option linter.unusedVariables false
set_option linter.unusedSimpArgs false
open Go.RowKit Go.MapKept
theorem ev_small {nd it tx : List UInt8} (h1 : nd.length ≤ 140737488351232) (h2 : it.length ≤ 140737488351232) (h3 : tx.length ≤ 140737488351232) : ∀ tk ∈ evL nd it tx, tk.small := by
  intro tk ht
  unfold evL elemL insideR at ht
  simp only [List.mem_cons, List.mem_append, List.mem_nil_iff, or_false] at ht
  rcases ht with rfl | (rfl | ht | rfl) | rfl
  · exact ⟨by decide, by simp, by simp, by simp⟩
  · refine ⟨by simp only; decide, by simp, by simp, fun p hp => ?_⟩
    simp only [List.mem_cons, List.mem_nil_iff, or_false] at hp
    rcases hp with rfl | rfl
    · exact ⟨by simp only; decide, h1⟩
    · exact ⟨by simp only; decide, h2⟩
  · split at ht
    · cases ht
    · simp only [List.mem_cons, List.mem_nil_iff, or_false] at ht
      subst ht
      exact ⟨by simp, h3, by simp, by simp⟩
  · exact ⟨by simp only; decide, by simp, by simp, by simp⟩
  · exact ⟨by simp only; decide, by simp, by simp, by simp⟩
theorem ev_whole {r : Rq} (h : rightR r = true) (h9 : r.vb = 9) : wholeL (evL r.nd r.it r.tx) = true := by
  obtain ⟨hn, ha, -, -⟩ := right_parts h
  unfold nodeR at hn
  unfold argsR at ha
  rw [h9] at hn ha
  simp only [reduceIte, Nat.reduceEqDiff, Bool.and_eq_true, Bool.or_eq_true] at ha hn
  have hnd : fitsP r.nd = true := by
    rcases hn with hn | hn
    · exact node_fits hn
    · exact absurd hn.2 (by decide)
  have hit := node_fits ha.2
  refine whole2 (by decide +kernel) (by decide +kernel) ?_ (.inr ha.1)
  have n1 : nameP nodeW = true := by decide +kernel
  have n2 : nameP idW = true := by decide +kernel
  have d1 : ¬ idW = nodeW := by decide
  simp [attrsP, n1, n2, d1, hnd, hit]
theorem ev_at (nd it tx : List UInt8) : (evL nd it tx)[1]? = some ⟨1, itemW, [(nodeW, nd), (idW, it)], []⟩ := rfl
theorem ev_len (nd it tx : List UInt8) : (evL nd it tx).length = if tx = [] then 4 else 5 := by
  unfold evL elemL insideR
  split <;> simp
theorem ev_text {nd it tx : List UInt8} (h : tx ≠ []) : (evL nd it tx)[2]? = some ⟨3, [], [], tx⟩ := by
  unfold evL elemL insideR
  rw [if_neg h]
  rfl
set_option maxRecDepth 100000 in
set_option maxHeartbeats 16000000 in
theorem requestEvents_walk (r : Rq) (w : World) (hr : r.small) (hT : Tabs w) (hU : U8T w) :
    Calls Tryd.prog 6 #[rqV r] w fun e w' => e = .returned (.bool true) ∧ Below w.heap.size w w' := by
  have hLv : Hid (∀ W, Below w.heap.size w W → Calls Tryd.prog 8 #[] W fun e w' => e = .returned (.bool true) ∧ Below W.heap.size W w') := Lib.hid fun W h => live13_any W (hT.below h)
  have hR : Hid (∀ W, Calls Tryd.prog 12 #[rqV r] W fun e w' => e = .returned (.bool (rightR r)) ∧ Below W.heap.size W w') := Lib.hid fun W => rqRight_any r W hr
  cases hrr : rightR r
  · rw [hrr] at hR
    unfold rqV at *
    replace hrr := Lib.hid hrr
    replace hr := Lib.hid hr
    replace hT := Lib.hid hT
    replace hU := Lib.hid hU
    go_enter Tryd.func6, Tryd.ntmps6
    go_wp2_with (first
      | (go_at_call 8; refine (hLv.out _ hb1.out).mono ?_; rintro e w2 ⟨rfl, hb2⟩)
      | (go_at_call 12; refine (hR.out _).mono ?_; rintro e w1 ⟨rfl, hb1⟩; replace hb1 := Lib.hid (below1t hb1)))
    go_ret
    exact ⟨rfl, belowT hb1.out hb2⟩
  rw [hrr] at hR
  by_cases h9 : r.vb = 9
  · have hWh : Hid (∀ v W, TkS W v (evL r.nd r.it r.tx) → Below w.heap.size w W → Calls Tryd.prog 11 #[v] W fun e w' => e = .returned (.bool true) ∧ Below W.heap.size W w') := Lib.hid fun v W h1 h2 => by
      have := refWhole_any v _ W h1 (ev_small hr.1 hr.2.1 hr.2.2.2.2.1) (hU.below h2)
      rw [ev_whole hrr h9] at this
      exact this
    have hEv : Hid (∀ W, Calls Tryd.prog 13 #[.agg #[.string ⟨#[97, 64, 100]⟩, .string ⟨r.nd.toArray⟩, .string ⟨r.it.toArray⟩, .string ⟨r.tx.toArray⟩, .bool false]] W fun e w' => ∃ v, e = .returned v ∧ TkS w' v (evL r.nd r.it r.tx) ∧ Below W.heap.size W w') := Lib.hid fun W => event_any r.nd r.it r.tx W
    have hAt1 := ev_at r.nd r.it r.tx
    have hLen := ev_len r.nd r.it r.tx
    have hTx := fun h => ev_text (nd := r.nd) (it := r.it) (tx := r.tx) h
    have hN : Hid (∀ sv W, AtS W sv [(nodeW, r.nd), (idW, r.it)] → Calls Tryd.prog 14 #[.agg #[.int .u8 1, .string ⟨itemW.toArray⟩, sv, .string ⟨#[]⟩], .string ⟨#[110, 111, 100, 101]⟩] W fun e w' => e = .returned (.tuple #[.string ⟨r.nd.toArray⟩, .bool true]) ∧ Below W.heap.size W w') := Lib.hid fun sv W h => by
      have := refAttr_any 1 nodeW itemW [] _ sv W h
      rw [show attrV nodeW [(nodeW, r.nd), (idW, r.it)] = .tuple #[.string ⟨r.nd.toArray⟩, .bool true] by simp [attrV, attrR]] at this
      exact this
    have hI : Hid (∀ sv W, AtS W sv [(nodeW, r.nd), (idW, r.it)] → Calls Tryd.prog 14 #[.agg #[.int .u8 1, .string ⟨itemW.toArray⟩, sv, .string ⟨#[]⟩], .string ⟨#[105, 100]⟩] W fun e w' => e = .returned (.tuple #[.string ⟨r.it.toArray⟩, .bool true]) ∧ Below W.heap.size W w') := Lib.hid fun sv W h => by
      have := refAttr_any 1 idW itemW [] _ sv W h
      rw [show attrV idW [(nodeW, r.nd), (idW, r.it)] = .tuple #[.string ⟨r.it.toArray⟩, .bool true] by simp [attrV, attrR, show ¬ nodeW = idW by decide]] at this
      exact this
    obtain ⟨vb, nd, it, jd, ro, ac, mx, dp, pa, co, tx⟩ := r
    simp only at h9
    subst h9
    unfold rqV at *
    simp only at *
    generalize evL nd it tx = TE at *
    clear hrr hr hT hU
    replace hAt1 := Lib.hid hAt1
    replace hLen := Lib.hid hLen
    replace hTx := Lib.hid hTx
    go_enter Tryd.func6, Tryd.ntmps6
    go_upto_region 4 with (first
      | (go_at_call 13; have m0 := hb1; refine (hEv.out _).mono ?_; rintro e w2 ⟨v2, rfl, hv2, hb2⟩; obtain ⟨yc, yf⟩ := bat hb2 w.heap.size xl; have yl := Nat.lt_of_lt_of_le xl hb2.size; have hB2 := Lib.hid (belowT hb1.out hb2); replace hv2 := Lib.hid hv2; replace hb2 := Lib.hid hb2)
      | (go_at_call 12; refine (hR.out _).mono ?_; rintro e w1 ⟨rfl, hb1⟩; obtain ⟨xc, xf⟩ := bat hb1 w.heap.size (by simp); have xl : w.heap.size < w1.heap.size := Nat.lt_of_lt_of_le (by simp) hb1.size; replace hb1 := Lib.hid (below1t hb1)))
    have hv3 := hv2.out
    obtain ⟨p2, c2, rfl, q1, q2, hcell⟩ := hv3
    replace hAt1 := hAt1.out
    replace hLen := hLen.out
    replace hTx := hTx.out
    have hl4 : 4 ≤ TE.length := by rw [hLen]; split <;> omega
    obtain ⟨b, o, rfl, hb, hcc⟩ := hcell (by omega)
    obtain ⟨sv, d0, d1, d2, d3, hA⟩ := hcc 1 (by omega)
    have e1 : TE[1]'(by omega) = ⟨1, itemW, [(nodeW, nd), (idW, it)], []⟩ := by
      rw [List.getElem?_eq_getElem (by omega)] at hAt1
      exact Option.some.inj hAt1
    rw [e1] at d0 d1 d3 hA
    simp only at d0 d1 d3 hA
    rw [show o + 1 * 4 = o + 4 by omega] at d0 d1 d2 d3
    obtain ⟨sp, sc, rfl, -⟩ := id hA
    clear hcell hAt1 e1
    replace hA := Lib.hid hA
    by_cases h0 : tx = []
    · subst h0
      rw [if_pos rfl] at hLen
      clear hTx hcc hl4 q1
      rw [hLen] at hv2 ⊢
      clear hLen
      go_wp2_with (first
        | (go_at_call 8; have m0 := hb5; refine (hLv.out _ hB5.out).mono ?_; rintro e w6 ⟨rfl, hb6⟩; obtain ⟨y6, -⟩ := bat hb6 w.heap.size yl5; obtain ⟨z6, -⟩ := bat hb6 b bl5; have hB6 := Lib.hid (belowT hB5.out hb6); replace hb6 := Lib.hid hb6)
        | (go_at_call 14; have m0 := hb4; refine (hI.out _ _ hA4.out).mono ?_; rintro e w5 ⟨rfl, hb5⟩; obtain ⟨y5, -⟩ := bat hb5 w.heap.size yl4; obtain ⟨z5, -⟩ := bat hb5 b bl4; have yl5 := Nat.lt_of_lt_of_le yl4 hb5.size; have bl5 := Nat.lt_of_lt_of_le bl4 hb5.size; have hB5 := Lib.hid (belowT hB4.out hb5); replace hb5 := Lib.hid hb5)
        | (go_at_call 14; have m0 := hb3; refine (hN.out _ _ hA3.out).mono ?_; rintro e w4 ⟨rfl, hb4⟩; obtain ⟨y4, -⟩ := bat hb4 w.heap.size yl3; obtain ⟨z4, -⟩ := bat hb4 b bl3; have yl4 := Nat.lt_of_lt_of_le yl3 hb4.size; have bl4 := Nat.lt_of_lt_of_le bl3 hb4.size; have hB4 := Lib.hid (belowT hB3.out hb4); have hA4 := Lib.hid (hA3.out.below hb4); replace hb4 := Lib.hid hb4)
        | (go_at_call 11; refine (hWh.out _ _ hv2.out hB2.out).mono ?_; rintro e w3 ⟨rfl, hb3⟩; obtain ⟨y3, -⟩ := bat hb3 w.heap.size yl; obtain ⟨z3, -⟩ := bat hb3 b hb; have yl3 := Nat.lt_of_lt_of_le yl hb3.size; have bl3 := Nat.lt_of_lt_of_le hb hb3.size; have hB3 := Lib.hid (belowT hB2.out hb3); have hA3 := Lib.hid (hA.out.below hb3); replace hb3 := Lib.hid hb3))
      go_ret
      exact ⟨by simp [itemW], hB6.out⟩
    · rw [if_neg h0] at hLen
      have hx := hTx h0
      obtain ⟨sv2, f0, f1, f2, f3, -⟩ := hcc 2 (by omega)
      have e2 : TE[2]'(by omega) = ⟨3, [], [], tx⟩ := by
        rw [List.getElem?_eq_getElem (by omega)] at hx
        exact Option.some.inj hx
      rw [e2] at f3
      simp only at f3
      rw [show o + 2 * 4 = o + 8 by omega] at f3
      clear hTx hcc f0 f1 f2 hx e2 hl4 q1
      have h0b : (tx == []) = false := by simpa using h0
      clear h0
      rw [hLen] at hv2 ⊢
      clear hLen
      go_wp2_with (first
        | (go_at_call 8; have m0 := hb5; refine (hLv.out _ hB5.out).mono ?_; rintro e w6 ⟨rfl, hb6⟩; obtain ⟨y6, -⟩ := bat hb6 w.heap.size yl5; obtain ⟨z6, -⟩ := bat hb6 b bl5; have hB6 := Lib.hid (belowT hB5.out hb6); replace hb6 := Lib.hid hb6)
        | (go_at_call 14; have m0 := hb4; refine (hI.out _ _ hA4.out).mono ?_; rintro e w5 ⟨rfl, hb5⟩; obtain ⟨y5, -⟩ := bat hb5 w.heap.size yl4; obtain ⟨z5, -⟩ := bat hb5 b bl4; have yl5 := Nat.lt_of_lt_of_le yl4 hb5.size; have bl5 := Nat.lt_of_lt_of_le bl4 hb5.size; have hB5 := Lib.hid (belowT hB4.out hb5); replace hb5 := Lib.hid hb5)
        | (go_at_call 14; have m0 := hb3; refine (hN.out _ _ hA3.out).mono ?_; rintro e w4 ⟨rfl, hb4⟩; obtain ⟨y4, -⟩ := bat hb4 w.heap.size yl3; obtain ⟨z4, -⟩ := bat hb4 b bl3; have yl4 := Nat.lt_of_lt_of_le yl3 hb4.size; have bl4 := Nat.lt_of_lt_of_le bl3 hb4.size; have hB4 := Lib.hid (belowT hB3.out hb4); have hA4 := Lib.hid (hA3.out.below hb4); replace hb4 := Lib.hid hb4)
        | (go_at_call 11; refine (hWh.out _ _ hv2.out hB2.out).mono ?_; rintro e w3 ⟨rfl, hb3⟩; obtain ⟨y3, -⟩ := bat hb3 w.heap.size yl; obtain ⟨z3, -⟩ := bat hb3 b hb; have yl3 := Nat.lt_of_lt_of_le yl hb3.size; have bl3 := Nat.lt_of_lt_of_le hb hb3.size; have hB3 := Lib.hid (belowT hB2.out hb3); have hA3 := Lib.hid (hA.out.below hb3); replace hb3 := Lib.hid hb3))
      go_ret
      exact ⟨by simp [itemW], hB6.out⟩
  · have h9b : ((r.vb : Int) == 9) = false := by rw [beq_eq_false_iff_ne]; omega
    unfold rqV at *
    replace hrr := Lib.hid hrr
    replace hr := Lib.hid hr
    replace hT := Lib.hid hT
    replace hU := Lib.hid hU
    go_enter Tryd.func6, Tryd.ntmps6
    go_wp2_with (first
      | (go_at_call 8; refine (hLv.out _ hb1.out).mono ?_; rintro e w2 ⟨rfl, hb2⟩)
      | (go_at_call 12; refine (hR.out _).mono ?_; rintro e w1 ⟨rfl, hb1⟩; obtain ⟨xc, xf⟩ := bat hb1 w.heap.size (by simp); replace hb1 := Lib.hid (below1t hb1)))
    go_ret
    exact ⟨rfl, belowT hb1.out hb2⟩
end Go.Proofs.YtmapinediglimaaDoor
