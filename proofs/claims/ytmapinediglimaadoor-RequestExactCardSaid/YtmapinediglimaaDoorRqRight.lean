/-
  Whether a request is right (request.Right), by the program. Condition: no text beyond the reach.
-/
import Derived.Test.YtmapinediglimaaDoorRqRest
import Derived.Test.YtmapinediglimaaDoorRqTab
import Derived.Laws.StructEq
namespace Go.Proofs.YtmapinediglimaaDoor
set_option linter.unusedVariables false
set_option linter.unusedSimpArgs false
open Go.RowKit Go.MapKept
set_option maxRecDepth 100000 in
set_option maxHeartbeats 4000000 in
theorem rqRight_any (r : Rq) (w : World) (hs : r.small) :
    Calls Tryd.prog 12 #[rqV r] w fun e w' => e = .returned (.bool (rightR r)) ∧ Below w.heap.size w w' := by
  have hX : rightR r = (okR r && !(verbL r.vb == []) && eqR (restR r) (zeroR r.vb)) := rfl
  have hRe : Hid (∀ W, Calls Tryd.prog 28 #[rqV r] W fun e w' => e = .returned (.tuple #[rqV (restR r), .bool (okR r)]) ∧ Below W.heap.size W w') := Lib.hid fun W => rest_any r W hs
  have hV : Hid (∀ W, Calls Tryd.prog 21 #[.int .u8 r.vb] W fun e w' => e = .returned (.string ⟨(verbL r.vb).toArray⟩) ∧ Below W.heap.size W w') := Lib.hid fun W => verb_any _ W
  rw [hX]
  clear hX hs
  generalize hq : eqR (restR r) (zeroR r.vb) = q
  generalize restR r = x at *
  generalize okR r = k at *
  generalize verbL r.vb = vl at *
  unfold zeroR eqR at hq
  unfold rqV at *
  obtain ⟨vb, nd, it, jd, ro, ac, mx, dp, pa, co, tx⟩ := r
  obtain ⟨xv, xn, xi, xj, xr, xa, xm, xd, xp, xo, xt⟩ := x
  simp only at *
  replace hq := Lib.hid hq
  cases k
  · go_enter Tryd.func12, Tryd.ntmps12
    go_wp2_with (go_at_call 28; refine (hRe.out _).mono ?_; rintro e w1 ⟨rfl, hb⟩; obtain ⟨hc, hf⟩ := bat hb w.heap.size (by simp); have hb1 := Lib.hid (below1t hb))
    go_ret
    refine ⟨rfl, ?_⟩
    repeat (first | with_reducible exact hb1.out | (with_reducible refine Below.setCell ?_ ?_ _; rotate_left; exact hb1.out.size) | (with_reducible refine Below.alloc ?_ ?_ _; rotate_left; exact hb1.out.size))
  · by_cases hv : vl = []
    · subst hv
      go_enter Tryd.func12, Tryd.ntmps12
      go_wp2_with (first
        | (go_at_call 21; have m0 := hb1; refine (hV.out _).mono ?_; rintro e w2 ⟨rfl, hb⟩; obtain ⟨hc2, hf2⟩ := bat hb w.heap.size (by have := hb1.out.size; simp; omega); have hb2 := Lib.hid hb)
        | (go_at_call 28; refine (hRe.out _).mono ?_; rintro e w1 ⟨rfl, hb⟩; obtain ⟨hc, hf⟩ := bat hb w.heap.size (by simp); have hb1 := Lib.hid (below1t hb); have hl1 : w.heap.size < w1.heap.size := Nat.lt_of_lt_of_le (by simp) hb.size))
      go_ret
      refine ⟨by simp, belowT ?_ hb2.out⟩
      repeat (first | with_reducible exact hb1.out | (with_reducible refine Below.setCell ?_ ?_ _; rotate_left; exact hb1.out.size) | (with_reducible refine Below.alloc ?_ ?_ _; rotate_left; exact hb1.out.size))
    · have hv2 : (vl == []) = false := by simpa using hv
      go_enter Tryd.func12, Tryd.ntmps12
      go_wp2_with (first
        | (go_at_call 21; have m0 := hb1; refine (hV.out _).mono ?_; rintro e w2 ⟨rfl, hb⟩; obtain ⟨hc2, hf2⟩ := bat hb w.heap.size (by have := hb1.out.size; simp; omega); obtain ⟨hc3, hf3⟩ := bat hb w1.heap.size (by simp); have hb2 := Lib.hid hb)
        | (go_at_call 28; refine (hRe.out _).mono ?_; rintro e w1 ⟨rfl, hb⟩; obtain ⟨hc, hf⟩ := bat hb w.heap.size (by simp); have hb1 := Lib.hid (below1t hb); have hl1 : w.heap.size < w1.heap.size := Nat.lt_of_lt_of_le (by simp) hb.size))
      all_goals
        go_ret
        refine ⟨ret_bool ?_, belowT ?_ hb2.out⟩
        · rw [← hq.out]
          first | (simp [*]; done) | (simp [*]; omega) | (simp [*]; intro h; omega)
        · repeat (first | with_reducible exact hb1.out | (with_reducible refine Below.setCell ?_ ?_ _; rotate_left; exact hb1.out.size) | (with_reducible refine Below.alloc ?_ ?_ _; rotate_left; exact hb1.out.size))
end Go.Proofs.YtmapinediglimaaDoor
