/-
  What a request has besides what its verb names (request.rest), and whether one is right (request.Right), by the program. Condition: no text beyond the reach.
-/
import Derived.Test.YtmapinediglimaaDoorNdN
import Derived.Test.YtmapinediglimaaDoorNdAddr
import Derived.Deep.DeepCutAuto
namespace Go.Proofs.YtmapinediglimaaDoor
set_option linter.unusedVariables false
set_option linter.unusedSimpArgs false
open Go.RowKit Go.MapKept
def Rq.small (r : Rq) : Prop := r.nd.length ≤ 140737488351232 ∧ r.it.length ≤ 140737488351232 ∧ r.jd.length ≤ 140737488351232 ∧ r.pa.length ≤ 140737488351232 ∧ r.tx.length ≤ 140737488351232 ∧ r.vb < 256
def objR (r : Rq) : Obj := .cells #[.int .u8 r.vb, .string ⟨r.nd.toArray⟩, .string ⟨r.it.toArray⟩, .string ⟨r.jd.toArray⟩, .int .u8 r.ro, .int .u8 r.ac, .int .i64 r.mx, .int .i64 r.dp, .string ⟨r.pa.toArray⟩, .bool r.co, .string ⟨r.tx.toArray⟩] 26
set_option maxRecDepth 100000 in
set_option maxHeartbeats 16000000 in
theorem rest_not (r : Rq) (w : World) (hs : r.small) (h15 : r.vb ≠ 15) :
    Calls Tryd.prog 28 #[rqV r] w fun e w' => e = .returned (.tuple #[rqV (restR r), .bool (okR r)]) ∧ Below w.heap.size w w' := by
  obtain ⟨vb, nd, it, jd, ro, ac, mx, dp, pa, co, tx⟩ := r
  obtain ⟨s1, s2, s3, s4, s5, -⟩ := hs
  simp only at h15 s1 s2 s3 s4 s5
  generalize hrv : rqV (restR ⟨vb, nd, it, jd, ro, ac, mx, dp, pa, co, tx⟩) = RV
  generalize hov : okR ⟨vb, nd, it, jd, ro, ac, mx, dp, pa, co, tx⟩ = OV
  have hN : nodeR ⟨vb, nd, it, jd, ro, ac, mx, dp, pa, co, tx⟩ = (nodeP nd || (nd == [] && vb == 15)) := rfl
  have hov2 : OV = (nodeR ⟨vb, nd, it, jd, ro, ac, mx, dp, pa, co, tx⟩ && argsR ⟨vb, nd, it, jd, ro, ac, mx, dp, pa, co, tx⟩) := hov.symm
  clear hov
  generalize nodeR ⟨vb, nd, it, jd, ro, ac, mx, dp, pa, co, tx⟩ = nb at hN hov2
  replace hN := Lib.hid hN
  replace hrv := Lib.hid hrv
  replace hov2 := Lib.hid hov2
  show Calls Tryd.prog 28 #[.agg #[.int .u8 vb, .string ⟨nd.toArray⟩, .string ⟨it.toArray⟩, .string ⟨jd.toArray⟩, .int .u8 ro, .int .u8 ac, .int .i64 mx, .int .i64 dp, .string ⟨pa.toArray⟩, .bool co, .string ⟨tx.toArray⟩]] w _
  have oA : Hid (((w.alloc (.cells #[.int .u8 vb, .string ⟨nd.toArray⟩, .string ⟨it.toArray⟩, .string ⟨jd.toArray⟩, .int .u8 ro, .int .u8 ac, .int .i64 mx, .int .i64 dp, .string ⟨pa.toArray⟩, .bool co, .string ⟨tx.toArray⟩] 26)).alloc (.cells #[.int .u8 0, .string ⟨#[]⟩, .string ⟨#[]⟩, .string ⟨#[]⟩, .int .u8 0, .int .u8 0, .int .i64 0, .int .i64 0, .string ⟨#[]⟩, .bool false, .string ⟨#[]⟩] 26)).heap[w.heap.size]? = some (.cells #[.int .u8 vb, .string ⟨nd.toArray⟩, .string ⟨it.toArray⟩, .string ⟨jd.toArray⟩, .int .u8 ro, .int .u8 ac, .int .i64 mx, .int .i64 dp, .string ⟨pa.toArray⟩, .bool co, .string ⟨tx.toArray⟩] 26)) := Lib.hid (obj_alloc (heap_alloc w _).1)
  have oB : Hid (((w.alloc (.cells #[.int .u8 vb, .string ⟨nd.toArray⟩, .string ⟨it.toArray⟩, .string ⟨jd.toArray⟩, .int .u8 ro, .int .u8 ac, .int .i64 mx, .int .i64 dp, .string ⟨pa.toArray⟩, .bool co, .string ⟨tx.toArray⟩] 26)).alloc (.cells #[.int .u8 0, .string ⟨#[]⟩, .string ⟨#[]⟩, .string ⟨#[]⟩, .int .u8 0, .int .u8 0, .int .i64 0, .int .i64 0, .string ⟨#[]⟩, .bool false, .string ⟨#[]⟩] 26)).heap[w.heap.size + 1]? = some (.cells #[.int .u8 0, .string ⟨#[]⟩, .string ⟨#[]⟩, .string ⟨#[]⟩, .int .u8 0, .int .u8 0, .int .i64 0, .int .i64 0, .string ⟨#[]⟩, .bool false, .string ⟨#[]⟩] 26)) := Lib.hid (by have := (heap_alloc (w.alloc (.cells #[.int .u8 vb, .string ⟨nd.toArray⟩, .string ⟨it.toArray⟩, .string ⟨jd.toArray⟩, .int .u8 ro, .int .u8 ac, .int .i64 mx, .int .i64 dp, .string ⟨pa.toArray⟩, .bool co, .string ⟨tx.toArray⟩] 26)) (.cells #[.int .u8 0, .string ⟨#[]⟩, .string ⟨#[]⟩, .string ⟨#[]⟩, .int .u8 0, .int .u8 0, .int .i64 0, .int .i64 0, .string ⟨#[]⟩, .bool false, .string ⟨#[]⟩] 26)).1; rwa [World.size_alloc] at this)
  have hB : Hid (Below w.heap.size w ((w.alloc (.cells #[.int .u8 vb, .string ⟨nd.toArray⟩, .string ⟨it.toArray⟩, .string ⟨jd.toArray⟩, .int .u8 ro, .int .u8 ac, .int .i64 mx, .int .i64 dp, .string ⟨pa.toArray⟩, .bool co, .string ⟨tx.toArray⟩] 26)).alloc (.cells #[.int .u8 0, .string ⟨#[]⟩, .string ⟨#[]⟩, .string ⟨#[]⟩, .int .u8 0, .int .u8 0, .int .i64 0, .int .i64 0, .string ⟨#[]⟩, .bool false, .string ⟨#[]⟩] 26))) := Lib.hid ((below1 w _).alloc (by simp) _)
  go_enter Tryd.func28, Tryd.ntmps28
  go_upto_region 1 with (fail)
  go_cut [4] (fun v4 W => v4 = .bool nb ∧ W.heap[w.heap.size]? = some (.cells #[.int .u8 vb, .string ⟨nd.toArray⟩, .string ⟨it.toArray⟩, .string ⟨jd.toArray⟩, .int .u8 ro, .int .u8 ac, .int .i64 mx, .int .i64 dp, .string ⟨pa.toArray⟩, .bool co, .string ⟨tx.toArray⟩] 26) ∧ W.heap[w.heap.size + 1]? = some (.cells #[.int .u8 0, .string ⟨#[]⟩, .string ⟨#[]⟩, .string ⟨#[]⟩, .int .u8 0, .int .u8 0, .int .i64 0, .int .i64 0, .string ⟨#[]⟩, .bool false, .string ⟨#[]⟩] 26) ∧ Below w.heap.size w W)
  case first =>
    clear hrv hov2
    have H0 : Hid (∀ W, Calls Tryd.prog 36 #[.string ⟨nd.toArray⟩] W fun e w' => e = .returned (.bool (nodeP nd)) ∧ Below W.heap.size W w') := Lib.hid fun W => nodeName_any nd W s1
    cases hq : nodeP nd
    · rw [hq] at H0 hN
      replace hq := Lib.hid hq
      by_cases hz : nd = []
      · subst hz
        have hv' : ((vb : Int) == 15) = false := by simp; omega
        have hv2 : (vb == 15) = false := by simpa using h15
        go_wp2_with (go_at_call 36; refine (H0.out _).mono ?_; rintro e w1 ⟨rfl, hb⟩; obtain ⟨hc, hf⟩ := bat hb w.heap.size (by simp only [World.size_alloc]; omega))
        go_meet
        exact ⟨by rw [hN.out, hv2]; rfl, (hb.block _ (by simp only [World.size_alloc]; omega)).trans oA.out, (hb.block _ (by simp only [World.size_alloc]; omega)).trans oB.out, belowT hB.out hb⟩
      · have hz2 : (nd == []) = false := by simpa using hz
        go_wp2_with (go_at_call 36; refine (H0.out _).mono ?_; rintro e w1 ⟨rfl, hb⟩; obtain ⟨hc, hf⟩ := bat hb w.heap.size (by simp only [World.size_alloc]; omega))
        go_meet
        exact ⟨by rw [hN.out, hz2]; simp, (hb.block _ (by simp only [World.size_alloc]; omega)).trans oA.out, (hb.block _ (by simp only [World.size_alloc]; omega)).trans oB.out, belowT hB.out hb⟩
    · rw [hq] at H0 hN
      replace hq := Lib.hid hq
      go_wp2_with (go_at_call 36; refine (H0.out _).mono ?_; rintro e w1 ⟨rfl, hb⟩; obtain ⟨hc, hf⟩ := bat hb w.heap.size (by simp only [World.size_alloc]; omega))
      go_meet
      exact ⟨by rw [hN.out]; simp [*], (hb.block _ (by simp only [World.size_alloc]; omega)).trans oA.out, (hb.block _ (by simp only [World.size_alloc]; omega)).trans oB.out, belowT hB.out hb⟩
  case rest =>
    clear oA oB hB hN
    obtain ⟨rfl, oA, oB, hB⟩ := hcut
    obtain ⟨xc, xf, xl⟩ := obj_cells oA
    obtain ⟨yc, yf, yl⟩ := obj_cells oB
    replace oA := Lib.hid oA
    replace oB := Lib.hid oB
    replace hB := Lib.hid hB
    have hIt : Hid (∀ W, Calls Tryd.prog 36 #[.string ⟨it.toArray⟩] W fun e w' => e = .returned (.bool (nodeP it)) ∧ Below W.heap.size W w') := Lib.hid fun W => nodeName_any it W s2
    have hPa : Hid (∀ W, Calls Tryd.prog 36 #[.string ⟨pa.toArray⟩] W fun e w' => e = .returned (.bool (nodeP pa)) ∧ Below W.heap.size W w') := Lib.hid fun W => nodeName_any pa W s4
    have hJd : Hid (∀ W, Calls Tryd.prog 37 #[.string ⟨jd.toArray⟩] W fun e w' => e = .returned (.bool (addrP jd)) ∧ Below W.heap.size W w') := Lib.hid fun W => address_any jd W s3
    have hTx : Hid (∀ W, Calls Tryd.prog 38 #[.string ⟨tx.toArray⟩] W fun e w' => e = .returned (.bool (fitsP tx)) ∧ Below W.heap.size W w') := Lib.hid fun W => body_any tx W s5
    replace hov2 := hov2.out
    simp only [argsR] at hov2
    replace hov2 := Lib.hid hov2
    clear s1 s2 s3 s4 s5
    by_cases h1 : vb = 1
    · subst h1
      replace hov2 := hov2.out
      simp only [reduceIte, Nat.reduceEqDiff] at hov2
      replace hov2 := Lib.hid hov2
      cases nb
      · go_wp2_with fail
        refine bodyPost_ret (v := .tuple #[.agg #[.int .u8 1, .string ⟨#[]⟩, .string ⟨it.toArray⟩, .string ⟨jd.toArray⟩, .int .u8 ro, .int .u8 ac, .int .i64 mx, .int .i64 dp, .string ⟨pa.toArray⟩, .bool false, .string ⟨tx.toArray⟩], .bool false]) (by simp [results, Tryd.results28, go_sem, xc, yc]) rfl ⟨?_, ?_⟩
        · rw [← hrv.out, hov2.out]; simp [restR, rqV] <;> omega
        · repeat (first | with_reducible exact hB.out | (with_reducible refine Below.setCell ?_ ?_ _; rotate_left; (first | exact Nat.le_refl _ | exact Nat.le_succ _)) | (with_reducible refine belowT ?_ (by with_reducible assumption)))
      · go_wp2_with fail
        refine bodyPost_ret (v := .tuple #[.agg #[.int .u8 1, .string ⟨#[]⟩, .string ⟨it.toArray⟩, .string ⟨jd.toArray⟩, .int .u8 ro, .int .u8 ac, .int .i64 mx, .int .i64 dp, .string ⟨pa.toArray⟩, .bool false, .string ⟨tx.toArray⟩], .bool true]) (by simp [results, Tryd.results28, go_sem, xc, yc]) rfl ⟨?_, ?_⟩
        · rw [← hrv.out, hov2.out]; simp [restR, rqV] <;> omega
        · repeat (first | with_reducible exact hB.out | (with_reducible refine Below.setCell ?_ ?_ _; rotate_left; (first | exact Nat.le_refl _ | exact Nat.le_succ _)) | (with_reducible refine belowT ?_ (by with_reducible assumption)))
    have i1 : ((vb : Int) == 1) = false := by simp; omega
    by_cases h3 : vb = 3
    · subst h3
      replace hov2 := hov2.out
      simp only [reduceIte, Nat.reduceEqDiff] at hov2
      replace hov2 := Lib.hid hov2
      cases nb
      · go_wp2_with fail
        refine bodyPost_ret (v := .tuple #[.agg #[.int .u8 3, .string ⟨#[]⟩, .string ⟨it.toArray⟩, .string ⟨jd.toArray⟩, .int .u8 ro, .int .u8 0, .int .i64 0, .int .i64 dp, .string ⟨pa.toArray⟩, .bool co, .string ⟨tx.toArray⟩], .bool false]) (by simp [results, Tryd.results28, go_sem, xc, yc]) rfl ⟨?_, ?_⟩
        · rw [← hrv.out, hov2.out]; simp [restR, rqV] <;> omega
        · repeat (first | with_reducible exact hB.out | (with_reducible refine Below.setCell ?_ ?_ _; rotate_left; (first | exact Nat.le_refl _ | exact Nat.le_succ _)) | (with_reducible refine belowT ?_ (by with_reducible assumption)))
      · by_cases q0 : ac ≤ 2
        · have p0 : decide ((ac : Int) ≤ 2) = true := by simp; omega
          by_cases q1 : 0 ≤ mx
          · have p1 : decide (0 ≤ mx) = true := by simp; omega
            by_cases q2 : mx ≤ 8
            · have p2 : decide (mx ≤ 8) = true := by simp; omega
              go_wp2_with fail
              refine bodyPost_ret (v := .tuple #[.agg #[.int .u8 3, .string ⟨#[]⟩, .string ⟨it.toArray⟩, .string ⟨jd.toArray⟩, .int .u8 ro, .int .u8 0, .int .i64 0, .int .i64 dp, .string ⟨pa.toArray⟩, .bool co, .string ⟨tx.toArray⟩], .bool true]) (by simp [results, Tryd.results28, go_sem, xc, yc]) rfl ⟨?_, ?_⟩
              · rw [← hrv.out, hov2.out]; simp [restR, rqV, q0, q1, q2] <;> omega
              · repeat (first | with_reducible exact hB.out | (with_reducible refine Below.setCell ?_ ?_ _; rotate_left; (first | exact Nat.le_refl _ | exact Nat.le_succ _)) | (with_reducible refine belowT ?_ (by with_reducible assumption)))
            · have p2 : decide (mx ≤ 8) = false := by simp; omega
              go_wp2_with fail
              refine bodyPost_ret (v := .tuple #[.agg #[.int .u8 3, .string ⟨#[]⟩, .string ⟨it.toArray⟩, .string ⟨jd.toArray⟩, .int .u8 ro, .int .u8 0, .int .i64 0, .int .i64 dp, .string ⟨pa.toArray⟩, .bool co, .string ⟨tx.toArray⟩], .bool false]) (by simp [results, Tryd.results28, go_sem, xc, yc]) rfl ⟨?_, ?_⟩
              · rw [← hrv.out, hov2.out]; simp [restR, rqV, q0, q1, q2] <;> omega
              · repeat (first | with_reducible exact hB.out | (with_reducible refine Below.setCell ?_ ?_ _; rotate_left; (first | exact Nat.le_refl _ | exact Nat.le_succ _)) | (with_reducible refine belowT ?_ (by with_reducible assumption)))
          · have p1 : decide (0 ≤ mx) = false := by simp; omega
            go_wp2_with fail
            refine bodyPost_ret (v := .tuple #[.agg #[.int .u8 3, .string ⟨#[]⟩, .string ⟨it.toArray⟩, .string ⟨jd.toArray⟩, .int .u8 ro, .int .u8 0, .int .i64 0, .int .i64 dp, .string ⟨pa.toArray⟩, .bool co, .string ⟨tx.toArray⟩], .bool false]) (by simp [results, Tryd.results28, go_sem, xc, yc]) rfl ⟨?_, ?_⟩
            · rw [← hrv.out, hov2.out]; simp [restR, rqV, q0, q1] <;> omega
            · repeat (first | with_reducible exact hB.out | (with_reducible refine Below.setCell ?_ ?_ _; rotate_left; (first | exact Nat.le_refl _ | exact Nat.le_succ _)) | (with_reducible refine belowT ?_ (by with_reducible assumption)))
        · have p0 : decide ((ac : Int) ≤ 2) = false := by simp; omega
          go_wp2_with fail
          refine bodyPost_ret (v := .tuple #[.agg #[.int .u8 3, .string ⟨#[]⟩, .string ⟨it.toArray⟩, .string ⟨jd.toArray⟩, .int .u8 ro, .int .u8 0, .int .i64 0, .int .i64 dp, .string ⟨pa.toArray⟩, .bool co, .string ⟨tx.toArray⟩], .bool false]) (by simp [results, Tryd.results28, go_sem, xc, yc]) rfl ⟨?_, ?_⟩
          · rw [← hrv.out, hov2.out]; simp [restR, rqV, q0] <;> omega
          · repeat (first | with_reducible exact hB.out | (with_reducible refine Below.setCell ?_ ?_ _; rotate_left; (first | exact Nat.le_refl _ | exact Nat.le_succ _)) | (with_reducible refine belowT ?_ (by with_reducible assumption)))
    have i3 : ((vb : Int) == 3) = false := by simp; omega
    by_cases h4 : vb = 4
    · subst h4
      replace hov2 := hov2.out
      simp only [reduceIte, Nat.reduceEqDiff] at hov2
      replace hov2 := Lib.hid hov2
      cases nb
      · go_wp2_with fail
        refine bodyPost_ret (v := .tuple #[.agg #[.int .u8 4, .string ⟨#[]⟩, .string ⟨it.toArray⟩, .string ⟨jd.toArray⟩, .int .u8 ro, .int .u8 ac, .int .i64 mx, .int .i64 0, .string ⟨pa.toArray⟩, .bool co, .string ⟨tx.toArray⟩], .bool false]) (by simp [results, Tryd.results28, go_sem, xc, yc]) rfl ⟨?_, ?_⟩
        · rw [← hrv.out, hov2.out]; simp [restR, rqV] <;> omega
        · repeat (first | with_reducible exact hB.out | (with_reducible refine Below.setCell ?_ ?_ _; rotate_left; (first | exact Nat.le_refl _ | exact Nat.le_succ _)) | (with_reducible refine belowT ?_ (by with_reducible assumption)))
      · by_cases q0 : 0 ≤ dp
        · have p0 : decide (0 ≤ dp) = true := by simp; omega
          by_cases q1 : dp ≤ 255
          · have p1 : decide (dp ≤ 255) = true := by simp; omega
            go_wp2_with fail
            refine bodyPost_ret (v := .tuple #[.agg #[.int .u8 4, .string ⟨#[]⟩, .string ⟨it.toArray⟩, .string ⟨jd.toArray⟩, .int .u8 ro, .int .u8 ac, .int .i64 mx, .int .i64 0, .string ⟨pa.toArray⟩, .bool co, .string ⟨tx.toArray⟩], .bool true]) (by simp [results, Tryd.results28, go_sem, xc, yc]) rfl ⟨?_, ?_⟩
            · rw [← hrv.out, hov2.out]; simp [restR, rqV, q0, q1] <;> omega
            · repeat (first | with_reducible exact hB.out | (with_reducible refine Below.setCell ?_ ?_ _; rotate_left; (first | exact Nat.le_refl _ | exact Nat.le_succ _)) | (with_reducible refine belowT ?_ (by with_reducible assumption)))
          · have p1 : decide (dp ≤ 255) = false := by simp; omega
            go_wp2_with fail
            refine bodyPost_ret (v := .tuple #[.agg #[.int .u8 4, .string ⟨#[]⟩, .string ⟨it.toArray⟩, .string ⟨jd.toArray⟩, .int .u8 ro, .int .u8 ac, .int .i64 mx, .int .i64 0, .string ⟨pa.toArray⟩, .bool co, .string ⟨tx.toArray⟩], .bool false]) (by simp [results, Tryd.results28, go_sem, xc, yc]) rfl ⟨?_, ?_⟩
            · rw [← hrv.out, hov2.out]; simp [restR, rqV, q0, q1] <;> omega
            · repeat (first | with_reducible exact hB.out | (with_reducible refine Below.setCell ?_ ?_ _; rotate_left; (first | exact Nat.le_refl _ | exact Nat.le_succ _)) | (with_reducible refine belowT ?_ (by with_reducible assumption)))
        · have p0 : decide (0 ≤ dp) = false := by simp; omega
          go_wp2_with fail
          refine bodyPost_ret (v := .tuple #[.agg #[.int .u8 4, .string ⟨#[]⟩, .string ⟨it.toArray⟩, .string ⟨jd.toArray⟩, .int .u8 ro, .int .u8 ac, .int .i64 mx, .int .i64 0, .string ⟨pa.toArray⟩, .bool co, .string ⟨tx.toArray⟩], .bool false]) (by simp [results, Tryd.results28, go_sem, xc, yc]) rfl ⟨?_, ?_⟩
          · rw [← hrv.out, hov2.out]; simp [restR, rqV, q0] <;> omega
          · repeat (first | with_reducible exact hB.out | (with_reducible refine Below.setCell ?_ ?_ _; rotate_left; (first | exact Nat.le_refl _ | exact Nat.le_succ _)) | (with_reducible refine belowT ?_ (by with_reducible assumption)))
    have i4 : ((vb : Int) == 4) = false := by simp; omega
    by_cases h8 : vb = 8
    · subst h8
      replace hov2 := hov2.out
      simp only [reduceIte, Nat.reduceEqDiff] at hov2
      replace hov2 := Lib.hid hov2
      cases nb
      · go_wp2_with fail
        refine bodyPost_ret (v := .tuple #[.agg #[.int .u8 8, .string ⟨#[]⟩, .string ⟨it.toArray⟩, .string ⟨#[]⟩, .int .u8 0, .int .u8 ac, .int .i64 mx, .int .i64 dp, .string ⟨pa.toArray⟩, .bool co, .string ⟨tx.toArray⟩], .bool false]) (by simp [results, Tryd.results28, go_sem, xc, yc]) rfl ⟨?_, ?_⟩
        · rw [← hrv.out, hov2.out]; simp [restR, rqV] <;> omega
        · repeat (first | with_reducible exact hB.out | (with_reducible refine Below.setCell ?_ ?_ _; rotate_left; (first | exact Nat.le_refl _ | exact Nat.le_succ _)) | (with_reducible refine belowT ?_ (by with_reducible assumption)))
      · by_cases q0 : 1 ≤ ro
        · have p0 : decide (1 ≤ (ro : Int)) = true := by simp; omega
          by_cases q1 : ro ≤ 5
          · have p1 : decide ((ro : Int) ≤ 5) = true := by simp; omega
            cases q2 : addrP jd
            · rw [q2] at hJd
              go_wp2_with (first
                | (go_at_call 37; refine (hJd.out _).mono ?_; rintro e v1 ⟨rfl, hb1⟩; obtain ⟨kc1, kf1⟩ := bat hb1 w.heap.size (by simp <;> omega); obtain ⟨lc1, lf1⟩ := bat hb1 (w.heap.size + 1) (by simp <;> omega); have ls1 := Nat.lt_of_lt_of_le (by simp <;> omega : w.heap.size + 1 < _) hb1.size))
              refine bodyPost_ret (v := .tuple #[.agg #[.int .u8 8, .string ⟨#[]⟩, .string ⟨it.toArray⟩, .string ⟨#[]⟩, .int .u8 0, .int .u8 ac, .int .i64 mx, .int .i64 dp, .string ⟨pa.toArray⟩, .bool co, .string ⟨tx.toArray⟩], .bool false]) (by simp [results, Tryd.results28, go_sem, xc, yc, kc1, lc1]) rfl ⟨?_, ?_⟩
              · rw [← hrv.out, hov2.out]; simp [restR, rqV, q0, q1, q2] <;> omega
              · repeat (first | with_reducible exact hB.out | (with_reducible refine Below.setCell ?_ ?_ _; rotate_left; (first | exact Nat.le_refl _ | exact Nat.le_succ _)) | (with_reducible refine belowT ?_ (by with_reducible assumption)))
            · rw [q2] at hJd
              go_wp2_with (first
                | (go_at_call 37; refine (hJd.out _).mono ?_; rintro e v1 ⟨rfl, hb1⟩; obtain ⟨kc1, kf1⟩ := bat hb1 w.heap.size (by simp <;> omega); obtain ⟨lc1, lf1⟩ := bat hb1 (w.heap.size + 1) (by simp <;> omega); have ls1 := Nat.lt_of_lt_of_le (by simp <;> omega : w.heap.size + 1 < _) hb1.size))
              refine bodyPost_ret (v := .tuple #[.agg #[.int .u8 8, .string ⟨#[]⟩, .string ⟨it.toArray⟩, .string ⟨#[]⟩, .int .u8 0, .int .u8 ac, .int .i64 mx, .int .i64 dp, .string ⟨pa.toArray⟩, .bool co, .string ⟨tx.toArray⟩], .bool true]) (by simp [results, Tryd.results28, go_sem, xc, yc, kc1, lc1]) rfl ⟨?_, ?_⟩
              · rw [← hrv.out, hov2.out]; simp [restR, rqV, q0, q1, q2] <;> omega
              · repeat (first | with_reducible exact hB.out | (with_reducible refine Below.setCell ?_ ?_ _; rotate_left; (first | exact Nat.le_refl _ | exact Nat.le_succ _)) | (with_reducible refine belowT ?_ (by with_reducible assumption)))
          · have p1 : decide ((ro : Int) ≤ 5) = false := by simp; omega
            go_wp2_with fail
            refine bodyPost_ret (v := .tuple #[.agg #[.int .u8 8, .string ⟨#[]⟩, .string ⟨it.toArray⟩, .string ⟨#[]⟩, .int .u8 0, .int .u8 ac, .int .i64 mx, .int .i64 dp, .string ⟨pa.toArray⟩, .bool co, .string ⟨tx.toArray⟩], .bool false]) (by simp [results, Tryd.results28, go_sem, xc, yc]) rfl ⟨?_, ?_⟩
            · rw [← hrv.out, hov2.out]; simp [restR, rqV, q0, q1] <;> omega
            · repeat (first | with_reducible exact hB.out | (with_reducible refine Below.setCell ?_ ?_ _; rotate_left; (first | exact Nat.le_refl _ | exact Nat.le_succ _)) | (with_reducible refine belowT ?_ (by with_reducible assumption)))
        · have p0 : decide (1 ≤ (ro : Int)) = false := by simp; omega
          go_wp2_with fail
          refine bodyPost_ret (v := .tuple #[.agg #[.int .u8 8, .string ⟨#[]⟩, .string ⟨it.toArray⟩, .string ⟨#[]⟩, .int .u8 0, .int .u8 ac, .int .i64 mx, .int .i64 dp, .string ⟨pa.toArray⟩, .bool co, .string ⟨tx.toArray⟩], .bool false]) (by simp [results, Tryd.results28, go_sem, xc, yc]) rfl ⟨?_, ?_⟩
          · rw [← hrv.out, hov2.out]; simp [restR, rqV, q0] <;> omega
          · repeat (first | with_reducible exact hB.out | (with_reducible refine Below.setCell ?_ ?_ _; rotate_left; (first | exact Nat.le_refl _ | exact Nat.le_succ _)) | (with_reducible refine belowT ?_ (by with_reducible assumption)))
    have i8 : ((vb : Int) == 8) = false := by simp; omega
    by_cases h6 : vb = 6
    · subst h6
      replace hov2 := hov2.out
      simp only [reduceIte, Nat.reduceEqDiff] at hov2
      replace hov2 := Lib.hid hov2
      cases nb
      · go_wp2_with fail
        refine bodyPost_ret (v := .tuple #[.agg #[.int .u8 6, .string ⟨#[]⟩, .string ⟨it.toArray⟩, .string ⟨#[]⟩, .int .u8 ro, .int .u8 ac, .int .i64 mx, .int .i64 dp, .string ⟨pa.toArray⟩, .bool co, .string ⟨tx.toArray⟩], .bool false]) (by simp [results, Tryd.results28, go_sem, xc, yc]) rfl ⟨?_, ?_⟩
        · rw [← hrv.out, hov2.out]; simp [restR, rqV] <;> omega
        · repeat (first | with_reducible exact hB.out | (with_reducible refine Below.setCell ?_ ?_ _; rotate_left; (first | exact Nat.le_refl _ | exact Nat.le_succ _)) | (with_reducible refine belowT ?_ (by with_reducible assumption)))
      · cases q0 : addrP jd
        · rw [q0] at hJd
          go_wp2_with (first
            | (go_at_call 37; refine (hJd.out _).mono ?_; rintro e v1 ⟨rfl, hb1⟩; obtain ⟨kc1, kf1⟩ := bat hb1 w.heap.size (by simp <;> omega); obtain ⟨lc1, lf1⟩ := bat hb1 (w.heap.size + 1) (by simp <;> omega); have ls1 := Nat.lt_of_lt_of_le (by simp <;> omega : w.heap.size + 1 < _) hb1.size))
          refine bodyPost_ret (v := .tuple #[.agg #[.int .u8 6, .string ⟨#[]⟩, .string ⟨it.toArray⟩, .string ⟨#[]⟩, .int .u8 ro, .int .u8 ac, .int .i64 mx, .int .i64 dp, .string ⟨pa.toArray⟩, .bool co, .string ⟨tx.toArray⟩], .bool false]) (by simp [results, Tryd.results28, go_sem, xc, yc, kc1, lc1]) rfl ⟨?_, ?_⟩
          · rw [← hrv.out, hov2.out]; simp [restR, rqV, q0] <;> omega
          · repeat (first | with_reducible exact hB.out | (with_reducible refine Below.setCell ?_ ?_ _; rotate_left; (first | exact Nat.le_refl _ | exact Nat.le_succ _)) | (with_reducible refine belowT ?_ (by with_reducible assumption)))
        · rw [q0] at hJd
          go_wp2_with (first
            | (go_at_call 37; refine (hJd.out _).mono ?_; rintro e v1 ⟨rfl, hb1⟩; obtain ⟨kc1, kf1⟩ := bat hb1 w.heap.size (by simp <;> omega); obtain ⟨lc1, lf1⟩ := bat hb1 (w.heap.size + 1) (by simp <;> omega); have ls1 := Nat.lt_of_lt_of_le (by simp <;> omega : w.heap.size + 1 < _) hb1.size))
          refine bodyPost_ret (v := .tuple #[.agg #[.int .u8 6, .string ⟨#[]⟩, .string ⟨it.toArray⟩, .string ⟨#[]⟩, .int .u8 ro, .int .u8 ac, .int .i64 mx, .int .i64 dp, .string ⟨pa.toArray⟩, .bool co, .string ⟨tx.toArray⟩], .bool true]) (by simp [results, Tryd.results28, go_sem, xc, yc, kc1, lc1]) rfl ⟨?_, ?_⟩
          · rw [← hrv.out, hov2.out]; simp [restR, rqV, q0] <;> omega
          · repeat (first | with_reducible exact hB.out | (with_reducible refine Below.setCell ?_ ?_ _; rotate_left; (first | exact Nat.le_refl _ | exact Nat.le_succ _)) | (with_reducible refine belowT ?_ (by with_reducible assumption)))
    have i6 : ((vb : Int) == 6) = false := by simp; omega
    by_cases h7 : vb = 7
    · subst h7
      replace hov2 := hov2.out
      simp only [reduceIte, Nat.reduceEqDiff] at hov2
      replace hov2 := Lib.hid hov2
      cases nb
      · go_wp2_with fail
        refine bodyPost_ret (v := .tuple #[.agg #[.int .u8 7, .string ⟨#[]⟩, .string ⟨it.toArray⟩, .string ⟨#[]⟩, .int .u8 ro, .int .u8 ac, .int .i64 mx, .int .i64 dp, .string ⟨pa.toArray⟩, .bool co, .string ⟨tx.toArray⟩], .bool false]) (by simp [results, Tryd.results28, go_sem, xc, yc]) rfl ⟨?_, ?_⟩
        · rw [← hrv.out, hov2.out]; simp [restR, rqV] <;> omega
        · repeat (first | with_reducible exact hB.out | (with_reducible refine Below.setCell ?_ ?_ _; rotate_left; (first | exact Nat.le_refl _ | exact Nat.le_succ _)) | (with_reducible refine belowT ?_ (by with_reducible assumption)))
      · cases q0 : addrP jd
        · rw [q0] at hJd
          go_wp2_with (first
            | (go_at_call 37; refine (hJd.out _).mono ?_; rintro e v1 ⟨rfl, hb1⟩; obtain ⟨kc1, kf1⟩ := bat hb1 w.heap.size (by simp <;> omega); obtain ⟨lc1, lf1⟩ := bat hb1 (w.heap.size + 1) (by simp <;> omega); have ls1 := Nat.lt_of_lt_of_le (by simp <;> omega : w.heap.size + 1 < _) hb1.size))
          refine bodyPost_ret (v := .tuple #[.agg #[.int .u8 7, .string ⟨#[]⟩, .string ⟨it.toArray⟩, .string ⟨#[]⟩, .int .u8 ro, .int .u8 ac, .int .i64 mx, .int .i64 dp, .string ⟨pa.toArray⟩, .bool co, .string ⟨tx.toArray⟩], .bool false]) (by simp [results, Tryd.results28, go_sem, xc, yc, kc1, lc1]) rfl ⟨?_, ?_⟩
          · rw [← hrv.out, hov2.out]; simp [restR, rqV, q0] <;> omega
          · repeat (first | with_reducible exact hB.out | (with_reducible refine Below.setCell ?_ ?_ _; rotate_left; (first | exact Nat.le_refl _ | exact Nat.le_succ _)) | (with_reducible refine belowT ?_ (by with_reducible assumption)))
        · rw [q0] at hJd
          go_wp2_with (first
            | (go_at_call 37; refine (hJd.out _).mono ?_; rintro e v1 ⟨rfl, hb1⟩; obtain ⟨kc1, kf1⟩ := bat hb1 w.heap.size (by simp <;> omega); obtain ⟨lc1, lf1⟩ := bat hb1 (w.heap.size + 1) (by simp <;> omega); have ls1 := Nat.lt_of_lt_of_le (by simp <;> omega : w.heap.size + 1 < _) hb1.size))
          refine bodyPost_ret (v := .tuple #[.agg #[.int .u8 7, .string ⟨#[]⟩, .string ⟨it.toArray⟩, .string ⟨#[]⟩, .int .u8 ro, .int .u8 ac, .int .i64 mx, .int .i64 dp, .string ⟨pa.toArray⟩, .bool co, .string ⟨tx.toArray⟩], .bool true]) (by simp [results, Tryd.results28, go_sem, xc, yc, kc1, lc1]) rfl ⟨?_, ?_⟩
          · rw [← hrv.out, hov2.out]; simp [restR, rqV, q0] <;> omega
          · repeat (first | with_reducible exact hB.out | (with_reducible refine Below.setCell ?_ ?_ _; rotate_left; (first | exact Nat.le_refl _ | exact Nat.le_succ _)) | (with_reducible refine belowT ?_ (by with_reducible assumption)))
    have i7 : ((vb : Int) == 7) = false := by simp; omega
    by_cases h9 : vb = 9
    · subst h9
      replace hov2 := hov2.out
      simp only [reduceIte, Nat.reduceEqDiff] at hov2
      replace hov2 := Lib.hid hov2
      cases nb
      · go_wp2_with fail
        refine bodyPost_ret (v := .tuple #[.agg #[.int .u8 9, .string ⟨#[]⟩, .string ⟨#[]⟩, .string ⟨jd.toArray⟩, .int .u8 ro, .int .u8 ac, .int .i64 mx, .int .i64 dp, .string ⟨pa.toArray⟩, .bool co, .string ⟨#[]⟩], .bool false]) (by simp [results, Tryd.results28, go_sem, xc, yc]) rfl ⟨?_, ?_⟩
        · rw [← hrv.out, hov2.out]; simp [restR, rqV] <;> omega
        · repeat (first | with_reducible exact hB.out | (with_reducible refine Below.setCell ?_ ?_ _; rotate_left; (first | exact Nat.le_refl _ | exact Nat.le_succ _)) | (with_reducible refine belowT ?_ (by with_reducible assumption)))
      · cases q0 : fitsP tx
        · rw [q0] at hTx
          go_wp2_with (first
            | (go_at_call 38; refine (hTx.out _).mono ?_; rintro e v1 ⟨rfl, hb1⟩; obtain ⟨kc1, kf1⟩ := bat hb1 w.heap.size (by simp <;> omega); obtain ⟨lc1, lf1⟩ := bat hb1 (w.heap.size + 1) (by simp <;> omega); have ls1 := Nat.lt_of_lt_of_le (by simp <;> omega : w.heap.size + 1 < _) hb1.size))
          refine bodyPost_ret (v := .tuple #[.agg #[.int .u8 9, .string ⟨#[]⟩, .string ⟨#[]⟩, .string ⟨jd.toArray⟩, .int .u8 ro, .int .u8 ac, .int .i64 mx, .int .i64 dp, .string ⟨pa.toArray⟩, .bool co, .string ⟨#[]⟩], .bool false]) (by simp [results, Tryd.results28, go_sem, xc, yc, kc1, lc1]) rfl ⟨?_, ?_⟩
          · rw [← hrv.out, hov2.out]; simp [restR, rqV, q0] <;> omega
          · repeat (first | with_reducible exact hB.out | (with_reducible refine Below.setCell ?_ ?_ _; rotate_left; (first | exact Nat.le_refl _ | exact Nat.le_succ _)) | (with_reducible refine belowT ?_ (by with_reducible assumption)))
        · rw [q0] at hTx
          cases q1 : nodeP it
          · rw [q1] at hIt
            go_wp2_with (first
              | (have m0 := hb1; go_at_call 36; refine (hIt.out _).mono ?_; rintro e v2 ⟨rfl, hb2⟩; obtain ⟨kc2, kf2⟩ := bat hb2 w.heap.size (by simp <;> omega); obtain ⟨lc2, lf2⟩ := bat hb2 (w.heap.size + 1) (by simp <;> omega); have ls2 := Nat.lt_of_lt_of_le (by simp <;> omega : w.heap.size + 1 < _) hb2.size)
              | (go_at_call 38; refine (hTx.out _).mono ?_; rintro e v1 ⟨rfl, hb1⟩; obtain ⟨kc1, kf1⟩ := bat hb1 w.heap.size (by simp <;> omega); obtain ⟨lc1, lf1⟩ := bat hb1 (w.heap.size + 1) (by simp <;> omega); have ls1 := Nat.lt_of_lt_of_le (by simp <;> omega : w.heap.size + 1 < _) hb1.size))
            refine bodyPost_ret (v := .tuple #[.agg #[.int .u8 9, .string ⟨#[]⟩, .string ⟨#[]⟩, .string ⟨jd.toArray⟩, .int .u8 ro, .int .u8 ac, .int .i64 mx, .int .i64 dp, .string ⟨pa.toArray⟩, .bool co, .string ⟨#[]⟩], .bool false]) (by simp [results, Tryd.results28, go_sem, xc, yc, kc1, lc1, kc2, lc2]) rfl ⟨?_, ?_⟩
            · rw [← hrv.out, hov2.out]; simp [restR, rqV, q0, q1] <;> omega
            · repeat (first | with_reducible exact hB.out | (with_reducible refine Below.setCell ?_ ?_ _; rotate_left; (first | exact Nat.le_refl _ | exact Nat.le_succ _)) | (with_reducible refine belowT ?_ (by with_reducible assumption)))
          · rw [q1] at hIt
            go_wp2_with (first
              | (have m0 := hb1; go_at_call 36; refine (hIt.out _).mono ?_; rintro e v2 ⟨rfl, hb2⟩; obtain ⟨kc2, kf2⟩ := bat hb2 w.heap.size (by simp <;> omega); obtain ⟨lc2, lf2⟩ := bat hb2 (w.heap.size + 1) (by simp <;> omega); have ls2 := Nat.lt_of_lt_of_le (by simp <;> omega : w.heap.size + 1 < _) hb2.size)
              | (go_at_call 38; refine (hTx.out _).mono ?_; rintro e v1 ⟨rfl, hb1⟩; obtain ⟨kc1, kf1⟩ := bat hb1 w.heap.size (by simp <;> omega); obtain ⟨lc1, lf1⟩ := bat hb1 (w.heap.size + 1) (by simp <;> omega); have ls1 := Nat.lt_of_lt_of_le (by simp <;> omega : w.heap.size + 1 < _) hb1.size))
            refine bodyPost_ret (v := .tuple #[.agg #[.int .u8 9, .string ⟨#[]⟩, .string ⟨#[]⟩, .string ⟨jd.toArray⟩, .int .u8 ro, .int .u8 ac, .int .i64 mx, .int .i64 dp, .string ⟨pa.toArray⟩, .bool co, .string ⟨#[]⟩], .bool true]) (by simp [results, Tryd.results28, go_sem, xc, yc, kc1, lc1, kc2, lc2]) rfl ⟨?_, ?_⟩
            · rw [← hrv.out, hov2.out]; simp [restR, rqV, q0, q1] <;> omega
            · repeat (first | with_reducible exact hB.out | (with_reducible refine Below.setCell ?_ ?_ _; rotate_left; (first | exact Nat.le_refl _ | exact Nat.le_succ _)) | (with_reducible refine belowT ?_ (by with_reducible assumption)))
    have i9 : ((vb : Int) == 9) = false := by simp; omega
    by_cases h10 : vb = 10
    · subst h10
      replace hov2 := hov2.out
      simp only [reduceIte, Nat.reduceEqDiff] at hov2
      replace hov2 := Lib.hid hov2
      cases nb
      · go_wp2_with fail
        refine bodyPost_ret (v := .tuple #[.agg #[.int .u8 10, .string ⟨#[]⟩, .string ⟨#[]⟩, .string ⟨jd.toArray⟩, .int .u8 ro, .int .u8 ac, .int .i64 mx, .int .i64 dp, .string ⟨pa.toArray⟩, .bool co, .string ⟨tx.toArray⟩], .bool false]) (by simp [results, Tryd.results28, go_sem, xc, yc]) rfl ⟨?_, ?_⟩
        · rw [← hrv.out, hov2.out]; simp [restR, rqV] <;> omega
        · repeat (first | with_reducible exact hB.out | (with_reducible refine Below.setCell ?_ ?_ _; rotate_left; (first | exact Nat.le_refl _ | exact Nat.le_succ _)) | (with_reducible refine belowT ?_ (by with_reducible assumption)))
      · cases q0 : nodeP it
        · rw [q0] at hIt
          go_wp2_with (first
            | (go_at_call 36; refine (hIt.out _).mono ?_; rintro e v1 ⟨rfl, hb1⟩; obtain ⟨kc1, kf1⟩ := bat hb1 w.heap.size (by simp <;> omega); obtain ⟨lc1, lf1⟩ := bat hb1 (w.heap.size + 1) (by simp <;> omega); have ls1 := Nat.lt_of_lt_of_le (by simp <;> omega : w.heap.size + 1 < _) hb1.size))
          refine bodyPost_ret (v := .tuple #[.agg #[.int .u8 10, .string ⟨#[]⟩, .string ⟨#[]⟩, .string ⟨jd.toArray⟩, .int .u8 ro, .int .u8 ac, .int .i64 mx, .int .i64 dp, .string ⟨pa.toArray⟩, .bool co, .string ⟨tx.toArray⟩], .bool false]) (by simp [results, Tryd.results28, go_sem, xc, yc, kc1, lc1]) rfl ⟨?_, ?_⟩
          · rw [← hrv.out, hov2.out]; simp [restR, rqV, q0] <;> omega
          · repeat (first | with_reducible exact hB.out | (with_reducible refine Below.setCell ?_ ?_ _; rotate_left; (first | exact Nat.le_refl _ | exact Nat.le_succ _)) | (with_reducible refine belowT ?_ (by with_reducible assumption)))
        · rw [q0] at hIt
          go_wp2_with (first
            | (go_at_call 36; refine (hIt.out _).mono ?_; rintro e v1 ⟨rfl, hb1⟩; obtain ⟨kc1, kf1⟩ := bat hb1 w.heap.size (by simp <;> omega); obtain ⟨lc1, lf1⟩ := bat hb1 (w.heap.size + 1) (by simp <;> omega); have ls1 := Nat.lt_of_lt_of_le (by simp <;> omega : w.heap.size + 1 < _) hb1.size))
          refine bodyPost_ret (v := .tuple #[.agg #[.int .u8 10, .string ⟨#[]⟩, .string ⟨#[]⟩, .string ⟨jd.toArray⟩, .int .u8 ro, .int .u8 ac, .int .i64 mx, .int .i64 dp, .string ⟨pa.toArray⟩, .bool co, .string ⟨tx.toArray⟩], .bool true]) (by simp [results, Tryd.results28, go_sem, xc, yc, kc1, lc1]) rfl ⟨?_, ?_⟩
          · rw [← hrv.out, hov2.out]; simp [restR, rqV, q0] <;> omega
          · repeat (first | with_reducible exact hB.out | (with_reducible refine Below.setCell ?_ ?_ _; rotate_left; (first | exact Nat.le_refl _ | exact Nat.le_succ _)) | (with_reducible refine belowT ?_ (by with_reducible assumption)))
    have i10 : ((vb : Int) == 10) = false := by simp; omega
    by_cases h13 : vb = 13
    · subst h13
      replace hov2 := hov2.out
      simp only [reduceIte, Nat.reduceEqDiff] at hov2
      replace hov2 := Lib.hid hov2
      cases nb
      · go_wp2_with fail
        refine bodyPost_ret (v := .tuple #[.agg #[.int .u8 13, .string ⟨#[]⟩, .string ⟨it.toArray⟩, .string ⟨jd.toArray⟩, .int .u8 ro, .int .u8 ac, .int .i64 mx, .int .i64 dp, .string ⟨#[]⟩, .bool co, .string ⟨tx.toArray⟩], .bool false]) (by simp [results, Tryd.results28, go_sem, xc, yc]) rfl ⟨?_, ?_⟩
        · rw [← hrv.out, hov2.out]; simp [restR, rqV] <;> omega
        · repeat (first | with_reducible exact hB.out | (with_reducible refine Below.setCell ?_ ?_ _; rotate_left; (first | exact Nat.le_refl _ | exact Nat.le_succ _)) | (with_reducible refine belowT ?_ (by with_reducible assumption)))
      · cases q0 : nodeP pa
        · rw [q0] at hPa
          go_wp2_with (first
            | (go_at_call 36; refine (hPa.out _).mono ?_; rintro e v1 ⟨rfl, hb1⟩; obtain ⟨kc1, kf1⟩ := bat hb1 w.heap.size (by simp <;> omega); obtain ⟨lc1, lf1⟩ := bat hb1 (w.heap.size + 1) (by simp <;> omega); have ls1 := Nat.lt_of_lt_of_le (by simp <;> omega : w.heap.size + 1 < _) hb1.size))
          refine bodyPost_ret (v := .tuple #[.agg #[.int .u8 13, .string ⟨#[]⟩, .string ⟨it.toArray⟩, .string ⟨jd.toArray⟩, .int .u8 ro, .int .u8 ac, .int .i64 mx, .int .i64 dp, .string ⟨#[]⟩, .bool co, .string ⟨tx.toArray⟩], .bool false]) (by simp [results, Tryd.results28, go_sem, xc, yc, kc1, lc1]) rfl ⟨?_, ?_⟩
          · rw [← hrv.out, hov2.out]; simp [restR, rqV, q0] <;> omega
          · repeat (first | with_reducible exact hB.out | (with_reducible refine Below.setCell ?_ ?_ _; rotate_left; (first | exact Nat.le_refl _ | exact Nat.le_succ _)) | (with_reducible refine belowT ?_ (by with_reducible assumption)))
        · rw [q0] at hPa
          go_wp2_with (first
            | (go_at_call 36; refine (hPa.out _).mono ?_; rintro e v1 ⟨rfl, hb1⟩; obtain ⟨kc1, kf1⟩ := bat hb1 w.heap.size (by simp <;> omega); obtain ⟨lc1, lf1⟩ := bat hb1 (w.heap.size + 1) (by simp <;> omega); have ls1 := Nat.lt_of_lt_of_le (by simp <;> omega : w.heap.size + 1 < _) hb1.size))
          refine bodyPost_ret (v := .tuple #[.agg #[.int .u8 13, .string ⟨#[]⟩, .string ⟨it.toArray⟩, .string ⟨jd.toArray⟩, .int .u8 ro, .int .u8 ac, .int .i64 mx, .int .i64 dp, .string ⟨#[]⟩, .bool co, .string ⟨tx.toArray⟩], .bool true]) (by simp [results, Tryd.results28, go_sem, xc, yc, kc1, lc1]) rfl ⟨?_, ?_⟩
          · rw [← hrv.out, hov2.out]; simp [restR, rqV, q0] <;> omega
          · repeat (first | with_reducible exact hB.out | (with_reducible refine Below.setCell ?_ ?_ _; rotate_left; (first | exact Nat.le_refl _ | exact Nat.le_succ _)) | (with_reducible refine belowT ?_ (by with_reducible assumption)))
    have i13 : ((vb : Int) == 13) = false := by simp; omega
    replace hov2 := hov2.out
    simp only [if_neg h1, if_neg h3, if_neg h4, if_neg h8, if_neg h6, if_neg h7, if_neg h9, if_neg h10, if_neg h13] at hov2
    replace hov2 := Lib.hid hov2
    cases nb
    · go_wp2_with fail
      refine bodyPost_ret (v := .tuple #[.agg #[.int .u8 vb, .string ⟨#[]⟩, .string ⟨it.toArray⟩, .string ⟨jd.toArray⟩, .int .u8 ro, .int .u8 ac, .int .i64 mx, .int .i64 dp, .string ⟨pa.toArray⟩, .bool co, .string ⟨tx.toArray⟩], .bool false]) (by simp [results, Tryd.results28, go_sem, xc, yc]) rfl ⟨?_, ?_⟩
      · rw [← hrv.out, hov2.out]; simp [restR, rqV, h1, h3, h4, h8, h6, h7, h9, h10, h13] <;> omega
      · repeat (first | with_reducible exact hB.out | (with_reducible refine Below.setCell ?_ ?_ _; rotate_left; (first | exact Nat.le_refl _ | exact Nat.le_succ _)) | (with_reducible refine belowT ?_ (by with_reducible assumption)))
    · go_wp2_with fail
      refine bodyPost_ret (v := .tuple #[.agg #[.int .u8 vb, .string ⟨#[]⟩, .string ⟨it.toArray⟩, .string ⟨jd.toArray⟩, .int .u8 ro, .int .u8 ac, .int .i64 mx, .int .i64 dp, .string ⟨pa.toArray⟩, .bool co, .string ⟨tx.toArray⟩], .bool true]) (by simp [results, Tryd.results28, go_sem, xc, yc]) rfl ⟨?_, ?_⟩
      · rw [← hrv.out, hov2.out]; simp [restR, rqV, h1, h3, h4, h8, h6, h7, h9, h10, h13] <;> omega
      · repeat (first | with_reducible exact hB.out | (with_reducible refine Below.setCell ?_ ?_ _; rotate_left; (first | exact Nat.le_refl _ | exact Nat.le_succ _)) | (with_reducible refine belowT ?_ (by with_reducible assumption)))
set_option maxRecDepth 100000 in
set_option maxHeartbeats 16000000 in
theorem rest_15 (r : Rq) (w : World) (hs : r.small) (h15 : r.vb = 15) :
    Calls Tryd.prog 28 #[rqV r] w fun e w' => e = .returned (.tuple #[rqV (restR r), .bool (okR r)]) ∧ Below w.heap.size w w' := by
  obtain ⟨vb, nd, it, jd, ro, ac, mx, dp, pa, co, tx⟩ := r
  obtain rfl : vb = 15 := h15
  obtain ⟨s1, s2, s3, s4, s5, -⟩ := hs
  simp only at s1 s2 s3 s4 s5
  generalize hrv : rqV (restR ⟨15, nd, it, jd, ro, ac, mx, dp, pa, co, tx⟩) = RV
  generalize hov : okR ⟨15, nd, it, jd, ro, ac, mx, dp, pa, co, tx⟩ = OV
  have hN : nodeR ⟨15, nd, it, jd, ro, ac, mx, dp, pa, co, tx⟩ = (nodeP nd || (nd == [] && (15 == 15 : Bool))) := rfl
  have hov2 : OV = (nodeR ⟨15, nd, it, jd, ro, ac, mx, dp, pa, co, tx⟩ && argsR ⟨15, nd, it, jd, ro, ac, mx, dp, pa, co, tx⟩) := hov.symm
  clear hov
  generalize nodeR ⟨15, nd, it, jd, ro, ac, mx, dp, pa, co, tx⟩ = nb at hN hov2
  replace hN := Lib.hid hN
  replace hrv := Lib.hid hrv
  replace hov2 := Lib.hid hov2
  show Calls Tryd.prog 28 #[.agg #[.int .u8 15, .string ⟨nd.toArray⟩, .string ⟨it.toArray⟩, .string ⟨jd.toArray⟩, .int .u8 ro, .int .u8 ac, .int .i64 mx, .int .i64 dp, .string ⟨pa.toArray⟩, .bool co, .string ⟨tx.toArray⟩]] w _
  have oA : Hid (((w.alloc (.cells #[.int .u8 15, .string ⟨nd.toArray⟩, .string ⟨it.toArray⟩, .string ⟨jd.toArray⟩, .int .u8 ro, .int .u8 ac, .int .i64 mx, .int .i64 dp, .string ⟨pa.toArray⟩, .bool co, .string ⟨tx.toArray⟩] 26)).alloc (.cells #[.int .u8 0, .string ⟨#[]⟩, .string ⟨#[]⟩, .string ⟨#[]⟩, .int .u8 0, .int .u8 0, .int .i64 0, .int .i64 0, .string ⟨#[]⟩, .bool false, .string ⟨#[]⟩] 26)).heap[w.heap.size]? = some (.cells #[.int .u8 15, .string ⟨nd.toArray⟩, .string ⟨it.toArray⟩, .string ⟨jd.toArray⟩, .int .u8 ro, .int .u8 ac, .int .i64 mx, .int .i64 dp, .string ⟨pa.toArray⟩, .bool co, .string ⟨tx.toArray⟩] 26)) := Lib.hid (obj_alloc (heap_alloc w _).1)
  have oB : Hid (((w.alloc (.cells #[.int .u8 15, .string ⟨nd.toArray⟩, .string ⟨it.toArray⟩, .string ⟨jd.toArray⟩, .int .u8 ro, .int .u8 ac, .int .i64 mx, .int .i64 dp, .string ⟨pa.toArray⟩, .bool co, .string ⟨tx.toArray⟩] 26)).alloc (.cells #[.int .u8 0, .string ⟨#[]⟩, .string ⟨#[]⟩, .string ⟨#[]⟩, .int .u8 0, .int .u8 0, .int .i64 0, .int .i64 0, .string ⟨#[]⟩, .bool false, .string ⟨#[]⟩] 26)).heap[w.heap.size + 1]? = some (.cells #[.int .u8 0, .string ⟨#[]⟩, .string ⟨#[]⟩, .string ⟨#[]⟩, .int .u8 0, .int .u8 0, .int .i64 0, .int .i64 0, .string ⟨#[]⟩, .bool false, .string ⟨#[]⟩] 26)) := Lib.hid (by have := (heap_alloc (w.alloc (.cells #[.int .u8 15, .string ⟨nd.toArray⟩, .string ⟨it.toArray⟩, .string ⟨jd.toArray⟩, .int .u8 ro, .int .u8 ac, .int .i64 mx, .int .i64 dp, .string ⟨pa.toArray⟩, .bool co, .string ⟨tx.toArray⟩] 26)) (.cells #[.int .u8 0, .string ⟨#[]⟩, .string ⟨#[]⟩, .string ⟨#[]⟩, .int .u8 0, .int .u8 0, .int .i64 0, .int .i64 0, .string ⟨#[]⟩, .bool false, .string ⟨#[]⟩] 26)).1; rwa [World.size_alloc] at this)
  have hB : Hid (Below w.heap.size w ((w.alloc (.cells #[.int .u8 15, .string ⟨nd.toArray⟩, .string ⟨it.toArray⟩, .string ⟨jd.toArray⟩, .int .u8 ro, .int .u8 ac, .int .i64 mx, .int .i64 dp, .string ⟨pa.toArray⟩, .bool co, .string ⟨tx.toArray⟩] 26)).alloc (.cells #[.int .u8 0, .string ⟨#[]⟩, .string ⟨#[]⟩, .string ⟨#[]⟩, .int .u8 0, .int .u8 0, .int .i64 0, .int .i64 0, .string ⟨#[]⟩, .bool false, .string ⟨#[]⟩] 26))) := Lib.hid ((below1 w _).alloc (by simp) _)
  go_enter Tryd.func28, Tryd.ntmps28
  go_upto_region 1 with (fail)
  go_cut [4] (fun v4 W => v4 = .bool nb ∧ W.heap[w.heap.size]? = some (.cells #[.int .u8 15, .string ⟨nd.toArray⟩, .string ⟨it.toArray⟩, .string ⟨jd.toArray⟩, .int .u8 ro, .int .u8 ac, .int .i64 mx, .int .i64 dp, .string ⟨pa.toArray⟩, .bool co, .string ⟨tx.toArray⟩] 26) ∧ W.heap[w.heap.size + 1]? = some (.cells #[.int .u8 0, .string ⟨#[]⟩, .string ⟨#[]⟩, .string ⟨#[]⟩, .int .u8 0, .int .u8 0, .int .i64 0, .int .i64 0, .string ⟨#[]⟩, .bool false, .string ⟨#[]⟩] 26) ∧ Below w.heap.size w W)
  case first =>
    clear hrv hov2
    have H0 : Hid (∀ W, Calls Tryd.prog 36 #[.string ⟨nd.toArray⟩] W fun e w' => e = .returned (.bool (nodeP nd)) ∧ Below W.heap.size W w') := Lib.hid fun W => nodeName_any nd W s1
    cases hq : nodeP nd
    · rw [hq] at H0 hN
      replace hq := Lib.hid hq
      by_cases hz : nd = []
      · subst hz
        go_wp2_with (go_at_call 36; refine (H0.out _).mono ?_; rintro e w1 ⟨rfl, hb⟩; obtain ⟨hc, hf⟩ := bat hb w.heap.size (by simp only [World.size_alloc]; omega))
        go_meet
        exact ⟨by rw [hN.out]; rfl, (hb.block _ (by simp only [World.size_alloc]; omega)).trans oA.out, (hb.block _ (by simp only [World.size_alloc]; omega)).trans oB.out, belowT hB.out hb⟩
      · have hz2 : (nd == []) = false := by simpa using hz
        go_wp2_with (go_at_call 36; refine (H0.out _).mono ?_; rintro e w1 ⟨rfl, hb⟩; obtain ⟨hc, hf⟩ := bat hb w.heap.size (by simp only [World.size_alloc]; omega))
        go_meet
        exact ⟨by rw [hN.out, hz2]; simp, (hb.block _ (by simp only [World.size_alloc]; omega)).trans oA.out, (hb.block _ (by simp only [World.size_alloc]; omega)).trans oB.out, belowT hB.out hb⟩
    · rw [hq] at H0 hN
      replace hq := Lib.hid hq
      go_wp2_with (go_at_call 36; refine (H0.out _).mono ?_; rintro e w1 ⟨rfl, hb⟩; obtain ⟨hc, hf⟩ := bat hb w.heap.size (by simp only [World.size_alloc]; omega))
      go_meet
      exact ⟨by rw [hN.out]; simp [*], (hb.block _ (by simp only [World.size_alloc]; omega)).trans oA.out, (hb.block _ (by simp only [World.size_alloc]; omega)).trans oB.out, belowT hB.out hb⟩
  case rest =>
    clear oA oB hB hN
    obtain ⟨rfl, oA, oB, hB⟩ := hcut
    obtain ⟨xc, xf, xl⟩ := obj_cells oA
    obtain ⟨yc, yf, yl⟩ := obj_cells oB
    replace oA := Lib.hid oA
    replace oB := Lib.hid oB
    replace hB := Lib.hid hB
    have hIt : Hid (∀ W, Calls Tryd.prog 36 #[.string ⟨it.toArray⟩] W fun e w' => e = .returned (.bool (nodeP it)) ∧ Below W.heap.size W w') := Lib.hid fun W => nodeName_any it W s2
    have hPa : Hid (∀ W, Calls Tryd.prog 36 #[.string ⟨pa.toArray⟩] W fun e w' => e = .returned (.bool (nodeP pa)) ∧ Below W.heap.size W w') := Lib.hid fun W => nodeName_any pa W s4
    have hJd : Hid (∀ W, Calls Tryd.prog 37 #[.string ⟨jd.toArray⟩] W fun e w' => e = .returned (.bool (addrP jd)) ∧ Below W.heap.size W w') := Lib.hid fun W => address_any jd W s3
    have hTx : Hid (∀ W, Calls Tryd.prog 38 #[.string ⟨tx.toArray⟩] W fun e w' => e = .returned (.bool (fitsP tx)) ∧ Below W.heap.size W w') := Lib.hid fun W => body_any tx W s5
    replace hov2 := hov2.out
    simp only [argsR] at hov2
    replace hov2 := Lib.hid hov2
    clear s1 s2 s3 s4 s5
    replace hov2 := hov2.out
    simp only [reduceIte, Nat.reduceEqDiff] at hov2
    replace hov2 := Lib.hid hov2
    cases nb
    · go_wp2_with fail
      refine bodyPost_ret (v := .tuple #[.agg #[.int .u8 15, .string ⟨#[]⟩, .string ⟨it.toArray⟩, .string ⟨jd.toArray⟩, .int .u8 ro, .int .u8 ac, .int .i64 mx, .int .i64 dp, .string ⟨pa.toArray⟩, .bool co, .string ⟨tx.toArray⟩], .bool false]) (by simp [results, Tryd.results28, go_sem, xc, yc]) rfl ⟨?_, ?_⟩
      · rw [← hrv.out, hov2.out]; simp [restR, rqV] <;> omega
      · repeat (first | with_reducible exact hB.out | (with_reducible refine Below.setCell ?_ ?_ _; rotate_left; (first | exact Nat.le_refl _ | exact Nat.le_succ _)) | (with_reducible refine belowT ?_ (by with_reducible assumption)))
    · go_wp2_with fail
      refine bodyPost_ret (v := .tuple #[.agg #[.int .u8 15, .string ⟨#[]⟩, .string ⟨it.toArray⟩, .string ⟨jd.toArray⟩, .int .u8 ro, .int .u8 ac, .int .i64 mx, .int .i64 dp, .string ⟨pa.toArray⟩, .bool co, .string ⟨tx.toArray⟩], .bool true]) (by simp [results, Tryd.results28, go_sem, xc, yc]) rfl ⟨?_, ?_⟩
      · rw [← hrv.out, hov2.out]; simp [restR, rqV] <;> omega
      · repeat (first | with_reducible exact hB.out | (with_reducible refine Below.setCell ?_ ?_ _; rotate_left; (first | exact Nat.le_refl _ | exact Nat.le_succ _)) | (with_reducible refine belowT ?_ (by with_reducible assumption)))
theorem rest_any (r : Rq) (w : World) (hs : r.small) :
    Calls Tryd.prog 28 #[rqV r] w fun e w' => e = .returned (.tuple #[rqV (restR r), .bool (okR r)]) ∧ Below w.heap.size w w' := by
  by_cases h : r.vb = 15
  · exact rest_15 r w hs h
  · exact rest_not r w hs h
end Go.Proofs.YtmapinediglimaaDoor
