/-
  The walk of WriteSame.
-/
import Derived.Test.YtfmheobofikkmaaWrLive
import Derived.Test.YtfmheobofikkmaaWrRefSame
import Derived.Test.YtfmheobofikkmaaOpenTk
namespace Go.Proofs.Ytfmheobofikkmaa
set_option linter.unusedVariables false
set_option linter.unusedSimpArgs false
open Go.RowKit Go.MapKept
theorem tk_same_refl (x : Tk) : x.same x = true := by simp [Tk.same]
theorem tk_same_comm (x y : Tk) : x.same y = y.same x := by
  unfold Tk.same
  rw [show decide (x.k = y.k) = decide (y.k = x.k) by simp [eq_comm], show decide (x.n = y.n) = decide (y.n = x.n) by simp [eq_comm], show decide (x.t = y.t) = decide (y.t = x.t) by simp [eq_comm], show decide (x.as = y.as) = decide (y.as = x.as) by simp [eq_comm]]
theorem same_refl : ∀ l : List Tk, sameL l l = true
  | [] => rfl
  | x :: l => by simp [sameL, tk_same_refl, same_refl l]
theorem same_comm : ∀ a b : List Tk, sameL a b = sameL b a
  | [], [] => rfl
  | x :: xs, y :: ys => by simp only [sameL]; rw [tk_same_comm x y, same_comm xs ys]
  | [], _ :: _ => rfl
  | _ :: _, [] => rfl
set_option maxHeartbeats 2000000 in
theorem writeSame_walk (v1 : Value) (a1 : List Tk) (v2 : Value) (a2 : List Tk) (w : World) (h1 : TkS w v1 a1) (_ : TksB 140737488351232 a1) (h2 : TkS w v2 a2) (_ : TksB 140737488351232 a2) :
    Calls Try.prog 7 #[v1, v2] w fun e w' => e = .returned (.bool true) ∧ Below w.heap.size w w' := by
  replace h1 := Lib.hid h1
  replace h2 := Lib.hid h2
  have tok1 := Lib.hid True.intro
  have hcm := Lib.hid (same_comm (a2.take 70) (a1.take 70))
  have hrf := Lib.hid (same_refl (a1.take 70))
  go_enter Try.func7, Try.ntmps7
  go_wp2_with (first
    | (go_at_call 8
       have m0 := tok1.out
       refine (few_any v1 a1 _ h1.out).mono ?_
       rintro e w1 ⟨u1, rfl, f1, rfl⟩
       replace f1 := Lib.hid f1
       clear tok1 m0
       have tok2 := Lib.hid True.intro)
    | (go_at_call 8
       have m0 := tok2.out
       refine (few_any v2 a2 _ h2.out).mono ?_
       rintro e w1 ⟨u2, rfl, f2, rfl⟩
       replace f2 := Lib.hid f2
       clear tok2 m0
       have tok3 := Lib.hid True.intro)
    | (go_at_call 11
       refine (live_any _).mono ?_
       rintro e w5 ⟨rfl, hb5⟩
       replace f1 := Lib.hid (f1.out.below hb5)
       replace f2 := Lib.hid (f2.out.below hb5)
       replace hb5 := Lib.hid hb5)
    | (go_at_call 18
       have m0 := tok3.out
       refine (same_any _ _ _ _ _ f1.out f2.out).mono ?_
       rintro e w6 ⟨rfl, hb6⟩
       replace f1 := Lib.hid (f1.out.below hb6)
       replace f2 := Lib.hid (f2.out.below hb6)
       replace hb6 := Lib.hid (belowT hb5.out hb6)
       clear tok3 m0
       have tok4 := Lib.hid True.intro)
    | (go_at_call 17
       refine (refSame_any _ _ _ _ _ f1.out f2.out).mono ?_
       rintro e w7 ⟨rfl, hb7⟩
       replace f1 := Lib.hid (f1.out.below hb7)
       replace f2 := Lib.hid (f2.out.below hb7)
       replace hb7 := Lib.hid (belowT hb6.out hb7))
    | (go_at_call 18
       have m0 := tok4.out
       refine (same_any _ _ _ _ _ f2.out f1.out).mono ?_
       rintro e w8 ⟨rfl, hb8⟩
       rw [hcm.out]
       replace f1 := Lib.hid (f1.out.below hb8)
       replace f2 := Lib.hid (f2.out.below hb8)
       replace hb8 := Lib.hid (belowT hb7.out hb8)
       clear tok4 m0
       have tok5 := Lib.hid True.intro)
    | (go_at_call 18
       have m0 := tok5.out
       refine (same_any _ _ _ _ _ f1.out f2.out).mono ?_
       rintro e w9 ⟨rfl, hb9⟩
       replace f1 := Lib.hid (f1.out.below hb9)
       replace hb9 := Lib.hid (belowT hb8.out hb9)
       clear tok5 m0
       have tok6 := Lib.hid True.intro)
    | (go_at_call 18
       have m0 := tok6.out
       refine (same_any _ _ _ _ _ f1.out f1.out).mono ?_
       rintro e w10 ⟨rfl, hb10⟩
       rw [hrf.out]
       replace hb10 := Lib.hid (belowT hb9.out hb10)
       clear tok6 m0))
  go_ret
  exact ⟨rfl, hb10.out⟩
end Go.Proofs.Ytfmheobofikkmaa
