/-
  Whether two stanzas are the same, by the program and by the reference. No condition.
-/
import Derived.Test.YtcfkegfddiglcaaDoorStFail
import Derived.Test.YtcfkegfddiglcaaDoorStEq
namespace Go.Proofs.YtcfkegfddiglcaaDoor
set_option linter.unusedVariables false
set_option linter.unusedSimpArgs false
open Go.RowKit Go.MapKept Go.Shelf
theorem same_kind {a b : Sz} (h : ¬ a.k = b.k) : sameZ a b = false := by unfold sameZ; rw [decide_eq_false h]; simp
set_option maxHeartbeats 2000000 in
theorem same06_any (x y : Sz) (v1 v2 : Value) (w : World) (h1 : TkS w v1 x.pl) (h2 : TkS w v2 y.pl) :
    Calls Tryd.prog 7 #[szV x v1, szV y v2] w fun e w' => e = .returned (.bool (sameZ x y)) ∧ Below w.heap.size w w' := by
  have hS : Hid (∀ W, Below w.heap.size w W → Calls Tryd.prog 19 #[v1, v2] W fun e w' => e = .returned (.bool (sameL x.pl y.pl)) ∧ Below W.heap.size W w') := Lib.hid fun W hb => refSame_any v1 v2 x.pl y.pl W (h1.below hb) (h2.below hb)
  obtain ⟨p1, c1, rfl, -⟩ := h1
  obtain ⟨p2, c2, rfl, -⟩ := h2
  generalize x.pl.length = n1 at *
  generalize y.pl.length = n2 at *
  unfold szV
  have hs0 : Hid (Below w.heap.size w ((w.alloc (.cells #[.int .u8 x.k, .string ⟨x.ty.toArray⟩, .string ⟨x.fr.toArray⟩, .string ⟨x.tt.toArray⟩, .string ⟨x.id.toArray⟩, .slice p1 n1 c1] 25)).alloc (.cells #[.int .u8 y.k, .string ⟨y.ty.toArray⟩, .string ⟨y.fr.toArray⟩, .string ⟨y.tt.toArray⟩, .string ⟨y.id.toArray⟩, .slice p2 n2 c2] 25))) := Lib.hid (belowA (below1 w _) _)
  have hz : Hid (sameZ x y = (decide (x.k = y.k) && decide (x.ty = y.ty) && decide (x.fr = y.fr) && decide (x.tt = y.tt) && decide (x.id = y.id) && sameL x.pl y.pl)) := Lib.hid rfl
  obtain ⟨k1, a1, b1, d1, e1, l1⟩ := x
  obtain ⟨k2, a2, b2, d2, e2, l2⟩ := y
  simp only at hS hz hs0 ⊢
  by_cases hk : k1 = k2
  · subst hk
    by_cases g1 : a1 = a2
    · subst g1
      by_cases g2 : b1 = b2
      · subst g2
        by_cases g3 : d1 = d2
        · subst g3
          by_cases g4 : e1 = e2
          · subst g4
            have hz1 : Hid (sameZ ⟨k1, a1, b1, d1, e1, l1⟩ ⟨k1, a1, b1, d1, e1, l2⟩ = sameL l1 l2) := Lib.hid (by rw [hz.out]; simp)
            clear hz
            go_enter Tryd.func7, Tryd.ntmps7
            go_wp2_with (go_at_call 19; refine (hS.out _ hs0.out).mono ?_; rintro e w1 ⟨rfl, hb⟩; replace hb := Lib.hid hb)
            go_ret
            exact ⟨ret_bool hz1.out.symm, belowT hs0.out hb.out⟩
          · have hz0 := Lib.hid (hz.out.trans (by simp [g4] : _ = false))
            have hk' : (e1 == e2) = false := by rw [beq_eq_false_iff_ne]; exact g4
            clear hz
            go_enter Tryd.func7, Tryd.ntmps7
            go_wp2_with fail
            all_goals go_ret
            all_goals exact ⟨ret_bool hz0.out.symm, hs0.out⟩
        · have hz0 := Lib.hid (hz.out.trans (by simp [g3] : _ = false))
          have hk' : (d1 == d2) = false := by rw [beq_eq_false_iff_ne]; exact g3
          clear hz
          go_enter Tryd.func7, Tryd.ntmps7
          go_wp2_with fail
          all_goals go_ret
          all_goals exact ⟨ret_bool hz0.out.symm, hs0.out⟩
      · have hz0 := Lib.hid (hz.out.trans (by simp [g2] : _ = false))
        have hk' : (b1 == b2) = false := by rw [beq_eq_false_iff_ne]; exact g2
        clear hz
        go_enter Tryd.func7, Tryd.ntmps7
        go_wp2_with fail
        all_goals go_ret
        all_goals exact ⟨ret_bool hz0.out.symm, hs0.out⟩
    · have hz0 := Lib.hid (hz.out.trans (by simp [g1] : _ = false))
      have hk' : (a1 == a2) = false := by rw [beq_eq_false_iff_ne]; exact g1
      clear hz
      go_enter Tryd.func7, Tryd.ntmps7
      go_wp2_with fail
      all_goals go_ret
      all_goals exact ⟨ret_bool hz0.out.symm, hs0.out⟩
  · have hz0 : Hid (sameZ ⟨k1, a1, b1, d1, e1, l1⟩ ⟨k2, a2, b2, d2, e2, l2⟩ = false) := Lib.hid (by rw [hz.out]; simp [hk])
    have hk' : ((k1 : Int) == (k2 : Int)) = false := by rw [beq_eq_false_iff_ne]; omega
    have hk2 : ¬ (k1 : Int) = (k2 : Int) := by omega
    clear hz
    go_enter Tryd.func7, Tryd.ntmps7
    go_wp2_with fail
    all_goals go_ret
    all_goals exact ⟨ret_bool hz0.out.symm, hs0.out⟩
end Go.Proofs.YtcfkegfddiglcaaDoor
