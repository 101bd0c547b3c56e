/-
  The walk of RequestBack: Decode of Encode is the request; Encode of Decode are the tokens. Conditions: no text beyond the reach; the library's variables are as they were laid.
-/
import Derived.Test.YtmapinediglimaaDoorRqLive
import Derived.Test.YtmapinediglimaaDoorRqP2
import Derived.Test.YtmapinediglimaaDoorRfAll
import Derived.Test.YtmapinediglimaaDoorWrRefSame
import Derived.Test.YtmapinediglimaaDoorOpenTk
namespace Go.Proofs.YtmapinediglimaaDoor
set_option linter.unusedVariables false
set_option linter.unusedSimpArgs false
open Go.RowKit Go.MapKept
theorem small_of_dec {l : List Tk} {x : Rq} (h : decR l = some x) (hs : ∀ tk ∈ l, tk.small) : x.small := by
  have hx : readR l = x := by
    unfold decR at h
    split at h
    · split at h
      · injection h
      · cases h
    · cases h
  have hl : l.length = 4 ∨ l.length = 5 := by
    unfold decR at h
    split at h
    · assumption
    · cases h
  have h1 : 1 < l.length := by omega
  rw [← hx, readR_at h1]
  have hs1 := hs _ (List.getElem_mem h1)
  have hk := verbN_le (l[1]'h1).n
  have h2 := readA_small (zeroR (verbN (l[1]'h1).n)) (l[1]'h1).as ⟨by simp [zeroR], by simp [zeroR], by simp [zeroR], by simp [zeroR], by simp [zeroR], by simp only [zeroR]; omega⟩ (fun p hp => hs1.2.2.2 p hp)
  refine ⟨h2.1, h2.2.1, h2.2.2.1, h2.2.2.2.1, ?_, h2.2.2.2.2.2⟩
  show (if l.length = 5 then (l[2]?.map Tk.t).getD [] else []).length ≤ _
  split
  · rw [List.getElem?_eq_getElem (show 2 < l.length by omega)]
    exact (hs _ (List.getElem_mem (show 2 < l.length by omega))).2.1
  · simp
set_option maxRecDepth 100000 in
set_option maxHeartbeats 8000000 in
theorem requestBack_go (r : Rq) (v : Value) (l : List Tk) (w : World) (hr : r.small) (hL : TkS w v l) (hs : ∀ tk ∈ l, tk.small) (hT : Tabs w) (hU : U8T w) :
    Calls Tryd.prog 5 #[rqV r, v] w fun e w' => e = .returned (.bool true) ∧ Below w.heap.size w w' := by
  have hE1 : Hid (∀ W, Below w.heap.size w W → Calls Tryd.prog 7 #[rqV r] W fun e w' => ∃ v, e = .returned (.tuple #[v, .int .i64 (errQ (rightR r))]) ∧ TkS w' v (encR r) ∧ Below W.heap.size W w') := Lib.hid fun W h => enc_any r W hr (hT.pow.below h)
  have hLv : Hid (∀ W, Below w.heap.size w W → Calls Tryd.prog 8 #[] W fun e w' => e = .returned (.bool true) ∧ Below W.heap.size W w') := Lib.hid fun W h => live13_any W (hT.below h)
  have hD2 : Hid (∀ W, Below w.heap.size w W → Calls Tryd.prog 10 #[v] W fun e w' => e = .returned (decV (decR l)) ∧ Below W.heap.size W w') := Lib.hid fun W h => decode_any v l W (hL.below h) hs (hT.below h)
  obtain ⟨vp, vc, rfl⟩ : ∃ a c, v = .slice a l.length c := by obtain ⟨a, c, h, -⟩ := hL; exact ⟨a, c, h⟩
  have e3 : errQ false = 3 := rfl
  have e0 : errQ true = 0 := rfl
  have hB1 := Lib.hid (below1 w (.cells (rqC r) 26))
  generalize hrb : rightR r = rb at hE1
  replace hrb := Lib.hid hrb
  have hrq : rqV r = .agg (rqC r) := rfl
  rw [hrq] at hE1 ⊢
  unfold rqC at hE1 hB1 ⊢
  go_enter Tryd.func5, Tryd.ntmps5
  go_upto_region 1 with (fail)
  go_cut [5, 6] (fun v5 v6 W => v6 = .int .i64 (errQ rb) ∧ TkS W v5 (encR r) ∧ W.heap[w.heap.size]? = some (.cells #[.int .u8 r.vb, .string ⟨r.nd.toArray⟩, .string ⟨r.it.toArray⟩, .string ⟨r.jd.toArray⟩, .int .u8 r.ro, .int .u8 r.ac, .int .i64 r.mx, .int .i64 r.dp, .string ⟨r.pa.toArray⟩, .bool r.co, .string ⟨r.tx.toArray⟩] 26) ∧ Below w.heap.size w W)
  case first =>
    go_wp2_with (go_at_call 7; refine (hE1.out _ hB1.out).mono ?_; rintro e w1 ⟨v1, rfl, hv1, hb1⟩; have hO := Lib.hid ((hb1.block w.heap.size (by simp)).trans (heap_alloc w _).1); have hB2 := Lib.hid (belowT hB1.out hb1); replace hv1 := Lib.hid hv1; replace hb1 := Lib.hid hb1)
    go_meet
    exact ⟨rfl, hv1.out, hO.out, hB2.out⟩
  case rest =>
    obtain ⟨rfl, hv5, hO, hB⟩ := hcut
    clear hE1 hB1
    go_upto_if 19 with (fail)
    go_cut [36] (fun _ W => Below w.heap.size w W)
    case first =>
      clear hD2 hLv
      cases rb
      · replace hv5 := Lib.hid hv5
        replace hB := Lib.hid hB
        replace hO := Lib.hid hO
        go_wp2_with fail
        go_meet
        exact hB.out
      · have hrr : rightR r = true := hrb.out
        have hen : encR r = toksR r := by unfold encR; rw [hrr]; rfl
        rw [hen] at hv5
        have hsm := toks_small hr hrr
        have hD1 : Hid (∀ W, Below wc.heap.size wc W → Calls Tryd.prog 10 #[u5] W fun e w' => e = .returned (.tuple #[.agg #[.int .u8 r.vb, .string ⟨r.nd.toArray⟩, .string ⟨r.it.toArray⟩, .string ⟨r.jd.toArray⟩, .int .u8 r.ro, .int .u8 r.ac, .int .i64 r.mx, .int .i64 r.dp, .string ⟨r.pa.toArray⟩, .bool r.co, .string ⟨r.tx.toArray⟩], .int .i64 0]) ∧ Below W.heap.size W w') := Lib.hid fun W h => by
          have := decode_any u5 (toksR r) W (hv5.below h) hsm ((hT.below hB).below h)
          rw [dec_toks hrr] at this
          exact this
        have hW1 : Hid (∀ W, Below wc.heap.size wc W → Calls Tryd.prog 11 #[u5] W fun e w' => e = .returned (.bool true) ∧ Below W.heap.size W w') := Lib.hid fun W h => by
          have := refWhole_any u5 (toksR r) W (hv5.below h) hsm ((hU.below hB).below h)
          rw [whole_toks hrr] at this
          exact this
        obtain ⟨xc, xf, xl⟩ := obj_cells hO
        obtain ⟨p5, c5, h5, -⟩ := hv5
        subst h5
        replace hrr := Lib.hid hrr
        replace hsm := Lib.hid hsm
        replace hen := Lib.hid hen
        replace hB := Lib.hid hB
        replace hO := Lib.hid hO
        go_wp2_with (first
          | (go_at_call 11; have m0 := hb2; refine (hW1.out _ (by have := (hb2.out.alloc hb2.out.size (.cells #[.int .u8 r.vb, .string ⟨r.nd.toArray⟩, .string ⟨r.it.toArray⟩, .string ⟨r.jd.toArray⟩, .int .u8 r.ro, .int .u8 r.ac, .int .i64 r.mx, .int .i64 r.dp, .string ⟨r.pa.toArray⟩, .bool r.co, .string ⟨r.tx.toArray⟩] 26)); exact this)).mono ?_; rintro e w3 ⟨rfl, hb3⟩; replace hb3 := Lib.hid hb3)
          | (go_at_call 10; refine (hD1.out _ (Below.refl _ _)).mono ?_; rintro e w2 ⟨rfl, hb2⟩; obtain ⟨yc, yf⟩ := bat hb2 w.heap.size xl; have yl := Nat.lt_of_lt_of_le xl hb2.size; replace hb2 := Lib.hid hb2))
        go_meet
        have hbb := belowT hB.out hb2.out
        exact belowT (hbb.alloc hbb.size _) hb3.out
    case rest =>
      clear hv5 hO hB
      have hLw := hL.below hcut
      have hDc := Lib.hid (hD2.out _ hcut)
      replace hcut := Lib.hid hcut
      clear hD2
      cases hd : decR l with
      | none =>
        rw [hd] at hDc
        have hdv : decV none = .tuple #[.agg #[.int .u8 0, .string ⟨#[]⟩, .string ⟨#[]⟩, .string ⟨#[]⟩, .int .u8 0, .int .u8 0, .int .i64 0, .int .i64 0, .string ⟨#[]⟩, .bool false, .string ⟨#[]⟩], .int .i64 3] := rfl
        rw [hdv] at hDc
        clear hdv
        replace hd := Lib.hid hd
        replace hLw := Lib.hid hLw
        replace hL := Lib.hid hL
        replace hs := Lib.hid hs
        go_wp2_with (first
          | (go_at_call 8; have m0 := hb2; refine (hLv.out _ (by have h9 := belowT hcut.out hb2.out; exact h9.alloc h9.size _)).mono ?_; rintro e w3 ⟨rfl, hb3⟩; obtain ⟨zc, zf⟩ := bat hb3 w2.heap.size (by simp); have zl : w2.heap.size < w3.heap.size := Nat.lt_of_lt_of_le (by simp) hb3.size; replace hb3 := Lib.hid hb3)
          | (go_at_call 10; refine hDc.out.mono ?_; rintro e w2 ⟨rfl, hb2⟩; replace hb2 := Lib.hid hb2))
        go_ret
        exact ⟨rfl, (by have h9 := belowT hcut.out hb2.out; exact belowT (h9.alloc h9.size _) hb3.out)⟩
      | some x =>
        obtain ⟨hxr, hxt⟩ := dec_some hd
        have hxs := small_of_dec hd hs
        rw [hd] at hDc
        have hdv : decV (some x) = .tuple #[.agg #[.int .u8 x.vb, .string ⟨x.nd.toArray⟩, .string ⟨x.it.toArray⟩, .string ⟨x.jd.toArray⟩, .int .u8 x.ro, .int .u8 x.ac, .int .i64 x.mx, .int .i64 x.dp, .string ⟨x.pa.toArray⟩, .bool x.co, .string ⟨x.tx.toArray⟩], .int .i64 0] := rfl
        rw [hdv] at hDc
        have hEx : Hid (∀ W, Below w.heap.size w W → Calls Tryd.prog 7 #[.agg #[.int .u8 x.vb, .string ⟨x.nd.toArray⟩, .string ⟨x.it.toArray⟩, .string ⟨x.jd.toArray⟩, .int .u8 x.ro, .int .u8 x.ac, .int .i64 x.mx, .int .i64 x.dp, .string ⟨x.pa.toArray⟩, .bool x.co, .string ⟨x.tx.toArray⟩]] W fun e w' => ∃ v, e = .returned (.tuple #[v, .int .i64 0]) ∧ TkS w' v l ∧ Below W.heap.size W w') := Lib.hid fun W h => by
          have h1 := enc_any x W hxs (hT.pow.below h)
          have h2 : encR x = l := by unfold encR; rw [hxr]; exact hxt
          rw [h2, hxr] at h1
          exact h1
        have hRx : Hid (∀ W, Calls Tryd.prog 12 #[.agg #[.int .u8 x.vb, .string ⟨x.nd.toArray⟩, .string ⟨x.it.toArray⟩, .string ⟨x.jd.toArray⟩, .int .u8 x.ro, .int .u8 x.ac, .int .i64 x.mx, .int .i64 x.dp, .string ⟨x.pa.toArray⟩, .bool x.co, .string ⟨x.tx.toArray⟩]] W fun e w' => e = .returned (.bool true) ∧ Below W.heap.size W w') := Lib.hid fun W => by
          have h1 := rqRight_any x W hxs
          rw [hxr] at h1
          exact h1
        have hSm : Hid (∀ v1 W, TkS W v1 l → Below wc.heap.size wc W → Calls Tryd.prog 9 #[v1, .slice vp l.length vc] W fun e w' => e = .returned (.bool true) ∧ Below W.heap.size W w') := Lib.hid fun v1 W h1 h2 => by
          have h3 := refSame_any v1 (.slice vp l.length vc) l l W h1 (hLw.below h2)
          rw [sameL_iff.2 rfl] at h3
          exact h3
        clear hdv
        replace hd := Lib.hid hd
        replace hLw := Lib.hid hLw
        replace hL := Lib.hid hL
        replace hs := Lib.hid hs
        replace hxr := Lib.hid hxr
        replace hxt := Lib.hid hxt
        replace hxs := Lib.hid hxs
        go_wp2_with (first
          | (go_at_call 12; have m0 := hb5; refine (hRx.out _).mono ?_; rintro e w6 ⟨rfl, hb6⟩; replace hb6 := Lib.hid hb6)
          | (go_at_call 9; have m0 := hb4; refine (hSm.out _ _ (TkS.below hv3.out hb4.out) (belowT hk3.out hb4.out)).mono ?_; rintro e w5 ⟨rfl, hb5⟩; obtain ⟨qc, qf⟩ := bat hb5 w2.heap.size zl4; have zl5 := Nat.lt_of_lt_of_le zl4 hb5.size; replace hb5 := Lib.hid hb5)
          | (go_at_call 8; have m0 := hb3; refine (hLv.out _ h3.out).mono ?_; rintro e w4 ⟨rfl, hb4⟩; obtain ⟨pc, pf⟩ := bat hb4 w2.heap.size zl; have zl4 := Nat.lt_of_lt_of_le zl hb4.size; replace hb4 := Lib.hid hb4)
          | (go_at_call 7; have m0 := hb2; refine (hEx.out _ (by have h9 := belowT hcut.out hb2.out; exact h9.alloc h9.size _)).mono ?_; rintro e w3 ⟨v3, rfl, hv3, hb3⟩; obtain ⟨zc, zf⟩ := bat hb3 w2.heap.size (by simp); have zl : w2.heap.size < w3.heap.size := Nat.lt_of_lt_of_le (by simp) hb3.size; have h3 := Lib.hid (belowT (by have h9 := belowT hcut.out hb2.out; exact h9.alloc h9.size _ : Below w.heap.size w (w2.alloc (.cells #[.int .u8 x.vb, .string ⟨x.nd.toArray⟩, .string ⟨x.it.toArray⟩, .string ⟨x.jd.toArray⟩, .int .u8 x.ro, .int .u8 x.ac, .int .i64 x.mx, .int .i64 x.dp, .string ⟨x.pa.toArray⟩, .bool x.co, .string ⟨x.tx.toArray⟩] 26))) hb3); have hk3 := Lib.hid (belowT (hb2.out.alloc hb2.out.size _ : Below wc.heap.size wc (w2.alloc (.cells #[.int .u8 x.vb, .string ⟨x.nd.toArray⟩, .string ⟨x.it.toArray⟩, .string ⟨x.jd.toArray⟩, .int .u8 x.ro, .int .u8 x.ac, .int .i64 x.mx, .int .i64 x.dp, .string ⟨x.pa.toArray⟩, .bool x.co, .string ⟨x.tx.toArray⟩] 26))) hb3); obtain ⟨p3, c3, hp3, hq3⟩ := hv3; have hv3 := Lib.hid (⟨p3, c3, hp3, hq3⟩ : TkS w3 v3 l); clear hq3; subst hp3; replace hb3 := Lib.hid hb3)
          | (go_at_call 10; refine hDc.out.mono ?_; rintro e w2 ⟨rfl, hb2⟩; replace hb2 := Lib.hid hb2))
        go_ret
        exact ⟨rfl, belowT (belowT (belowT h3.out hb4.out) hb5.out) hb6.out⟩
theorem tks_small {l : List Tk} (h : TksB 140737488351232 l) : ∀ tk ∈ l, tk.small := fun tk ht => by
  obtain ⟨h1, h2, h3⟩ := h.2 tk ht
  exact ⟨h1, h2, by have := h3.1; omega, h3.2⟩
theorem requestBack_walk (r : Rq) (v : Value) (l : List Tk) (w : World) (hr : r.small) (hL : TkS w v l) (hs : TksB 140737488351232 l) (hT : Tabs w) (hU : U8T w) :
    Calls Tryd.prog 5 #[rqV r, v] w fun e w' => e = .returned (.bool true) ∧ Below w.heap.size w w' := requestBack_go r v l w hr hL (tks_small hs) hT hU
end Go.Proofs.YtmapinediglimaaDoor
