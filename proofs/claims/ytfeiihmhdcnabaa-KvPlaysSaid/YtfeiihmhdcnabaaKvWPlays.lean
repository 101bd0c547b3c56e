/-
  The walk of KvPlays.
-/
import Derived.Test.YtfeiihmhdcnabaaKvSame
namespace Go.Proofs.Ytfeiihmhdcnabaa
set_option linter.unusedVariables false
set_option linter.unusedSimpArgs false
open Go.RowKit Go.MapKept
theorem kvPlays_walk (v : Value) (l : List Dd) (s : Txt) (w : World) (h : DdS w v l) (hB : DdB l) (hs : s.length ≤ 140737488351232) :
    Calls Try.prog 4 #[v, .string ⟨s.toArray⟩] w fun e w' => e = .returned (.bool true) ∧ Below w.heap.size w w' := by
  have hP := Lib.hid (play_any v l w h hB)
  have hSa : Hid (∀ g b gr E W, Both w.heap.size W g b gr E → _) := Lib.hid fun g b gr E W h => same_any w.heap.size g b gr E s W h hs
  have hL := Lib.hid live_kv
  obtain ⟨va, vn, vc, rfl⟩ : ∃ a n c, v = .slice a n c := by obtain ⟨a, c, h, -⟩ := h; exact ⟨a, _, c, h⟩
  clear h hB hs
  go_enter Try.func4, Try.ntmps4
  go_wp2_with (first
    | (have m0 := hb2; go_at_call 17; refine (hSa.out _ _ _ _ _ hBo2.out).mono ?_; rintro e w3 ⟨rfl, hbn⟩; have hb3 := Lib.hid (belowT hb2.out hbn); clear hbn)
    | (have m0 := hb1; go_at_call 14; refine (hL.out _).mono ?_; rintro e w2 ⟨rfl, hbn⟩; have hBo2 := Lib.hid (hBo.out.below hbn); have hb2 := Lib.hid (belowT hb1.out hbn); clear hbn)
    | (go_at_call 16; refine hP.out.mono ?_; rintro e w1 ⟨g, b, gr, rfl, hBo, hb1⟩; replace hBo := Lib.hid hBo; replace hb1 := Lib.hid hb1))
  go_ret
  exact ⟨rfl, hb3.out⟩
end Go.Proofs.Ytfeiihmhdcnabaa
