/-
  The walk of JidTwice: normal of normal, and bare of bare, are the same; either one of what is right is right.
-/
import Derived.Test.YtpfipkdnjoihdaaJidLive
import Derived.Deep.RegionHeld3
import Derived.Deep.DeepCutAuto
import Derived.Test.YtpfipkdnjoihdaaFloat
namespace Go.Proofs.Ytpfipkdnjoihdaa
set_option linter.unusedVariables false
set_option linter.unusedSimpArgs false
open Go.RowKit
attribute [local go_sem] setCell_drewN alloc_drewN drewN_drewN drew_drewN drewN_drew mk_get lt2 lt3 lt4 lt5 lt6 lt7 lt8 lt9 lt10 lt11 lt12
theorem keep3 {w W w' : World} {B g k : Nat} {a b c a' b' c' a'' b'' c'' : Value} (hS : (W.cell? ⟨B, 0, none⟩ = some a ∧ W.cell? ⟨B, 1, none⟩ = some b ∧ W.cell? ⟨B, 2, none⟩ = some c) ∧ (W.cell? ⟨g, 0, none⟩ = some a' ∧ W.cell? ⟨g, 1, none⟩ = some b' ∧ W.cell? ⟨g, 2, none⟩ = some c') ∧ (W.cell? ⟨k, 0, none⟩ = some a'' ∧ W.cell? ⟨k, 1, none⟩ = some b'' ∧ W.cell? ⟨k, 2, none⟩ = some c'') ∧ Below w.heap.size w W ∧ B < W.heap.size ∧ g < W.heap.size ∧ k < W.heap.size) (hb : Below W.heap.size W w') :
    (w'.cell? ⟨B, 0, none⟩ = some a ∧ w'.cell? ⟨B, 1, none⟩ = some b ∧ w'.cell? ⟨B, 2, none⟩ = some c) ∧ (w'.cell? ⟨g, 0, none⟩ = some a' ∧ w'.cell? ⟨g, 1, none⟩ = some b' ∧ w'.cell? ⟨g, 2, none⟩ = some c') ∧ (w'.cell? ⟨k, 0, none⟩ = some a'' ∧ w'.cell? ⟨k, 1, none⟩ = some b'' ∧ w'.cell? ⟨k, 2, none⟩ = some c'') ∧ Below w.heap.size w w' ∧ B < w'.heap.size ∧ g < w'.heap.size ∧ k < w'.heap.size := by
  obtain ⟨⟨h1, h2, h3⟩, ⟨h4, h5, h6⟩, ⟨k4, k5, k6⟩, h7, h8, h9, h10⟩ := hS
  obtain ⟨hc, -⟩ := bat hb B h8
  obtain ⟨hd, -⟩ := bat hb g h9
  obtain ⟨he, -⟩ := bat hb k h10
  exact ⟨⟨(hc 0).trans h1, (hc 1).trans h2, (hc 2).trans h3⟩, ⟨(hd 0).trans h4, (hd 1).trans h5, (hd 2).trans h6⟩, ⟨(he 0).trans k4, (he 1).trans k5, (he 2).trans k6⟩, belowT h7 hb, Nat.lt_of_lt_of_le h8 hb.size, Nat.lt_of_lt_of_le h9 hb.size, Nat.lt_of_lt_of_le h10 hb.size⟩
set_option maxHeartbeats 8000000 in
theorem jidTwice_walk (x y z : List UInt8) (w : World) (hx : x.length ≤ 140737488351232) (hy : y.length ≤ 140737488351232) (hz : z.length ≤ 140737488351232) :
    Calls Try.prog 8 #[.agg #[.string ⟨x.toArray⟩, .string ⟨y.toArray⟩, .string ⟨z.toArray⟩]] w fun e w' => e = .returned (.bool true) ∧ Below w.heap.size w w' := by
  have hL := Lib.hid live_any
  have u1 : (lowL x).length ≤ 140737488351232 := by rw [length_low]; omega
  have u2 : (lowL y).length ≤ 140737488351232 := by rw [length_low]; omega
  have l1 := lowL_lowL x
  have l2 := lowL_lowL y
  go_enter Try.func8, Try.ntmps8
  go_upto_region 1 with (fail)
  go_cut [3, 4] (fun v3 v4 W => ∃ g k : Nat, v3 = .pointer (some ⟨g, 0, none⟩) ∧ v4 = .pointer (some ⟨k, 0, none⟩) ∧ (W.cell? ⟨w.heap.size, 0, none⟩ = some (.string ⟨x.toArray⟩) ∧ W.cell? ⟨w.heap.size, 1, none⟩ = some (.string ⟨y.toArray⟩) ∧ W.cell? ⟨w.heap.size, 2, none⟩ = some (.string ⟨z.toArray⟩)) ∧ (W.cell? ⟨g, 0, none⟩ = some (.string ⟨x.toArray⟩) ∧ W.cell? ⟨g, 1, none⟩ = some (.string ⟨y.toArray⟩) ∧ W.cell? ⟨g, 2, none⟩ = some (.string ⟨#[]⟩)) ∧ (W.cell? ⟨k, 0, none⟩ = some (.string ⟨(lowL x).toArray⟩) ∧ W.cell? ⟨k, 1, none⟩ = some (.string ⟨(lowL y).toArray⟩) ∧ W.cell? ⟨k, 2, none⟩ = some (.string ⟨z.toArray⟩)) ∧ Below w.heap.size w W ∧ w.heap.size < W.heap.size ∧ g < W.heap.size ∧ k < W.heap.size)
  case first =>
    go_region_held3 (fun W => W.cell? ⟨w.heap.size, 0, none⟩ = some (.string ⟨x.toArray⟩) ∧ W.cell? ⟨w.heap.size, 1, none⟩ = some (.string ⟨y.toArray⟩) ∧ W.cell? ⟨w.heap.size, 2, none⟩ = some (.string ⟨z.toArray⟩)) (simp [go_sem])
      (first
        | (go_at_call 17; refine (bare_any _ _ _ _).mono ?_; rintro e w1 ⟨rfl, o1, o2, n1, rfl⟩)
        | (go_at_call 19; refine (normal_any _ _ _ _ (by omega) (by omega) (by omega)).mono ?_; rintro e w1 ⟨rfl, o1, o2, o3, o4, o5, n1, rfl⟩))
    all_goals go_wp2_with fail
    all_goals go_meet
    all_goals (refine ⟨_, _, rfl, rfl, ⟨by simp [go_sem], by simp [go_sem], by simp [go_sem]⟩, ⟨by simp [go_sem], by simp [go_sem], by simp [go_sem]⟩, ⟨by simp [go_sem], by simp [go_sem], by simp [go_sem]⟩, ?_, by simp [go_sem] <;> omega, by simp [go_sem] <;> omega, by simp [go_sem] <;> omega⟩; exact belowN (belowA (belowA (belowA (belowA (belowA (belowA (belowA (belowA (belowA (below1 w _) _) _) _) _) _) _) _) _) _) _)
  case rest =>
    obtain ⟨g, k, rfl, rfl, K0⟩ := hcut
    replace K0 := Lib.hid K0
    go_wp2_with fail
    have K := keep3 K0.out ((Below.refl _ _).drew)
    cases hR : rightJ x y z
    · refine wp_region_float (by kernel_rfl) (by kernel_rfl) (fun W => (W.cell? ⟨w.heap.size, 0, none⟩ = some (.string ⟨x.toArray⟩) ∧ W.cell? ⟨w.heap.size, 1, none⟩ = some (.string ⟨y.toArray⟩) ∧ W.cell? ⟨w.heap.size, 2, none⟩ = some (.string ⟨z.toArray⟩)) ∧ (W.cell? ⟨g, 0, none⟩ = some (.string ⟨x.toArray⟩) ∧ W.cell? ⟨g, 1, none⟩ = some (.string ⟨y.toArray⟩) ∧ W.cell? ⟨g, 2, none⟩ = some (.string ⟨#[]⟩)) ∧ (W.cell? ⟨k, 0, none⟩ = some (.string ⟨(lowL x).toArray⟩) ∧ W.cell? ⟨k, 1, none⟩ = some (.string ⟨(lowL y).toArray⟩) ∧ W.cell? ⟨k, 2, none⟩ = some (.string ⟨z.toArray⟩)) ∧ Below w.heap.size w W ∧ w.heap.size < W.heap.size ∧ g < W.heap.size ∧ k < W.heap.size) K ?_
      simp only [List.toList_toArray]
      repeat (first
        | (apply Flo.skip; · rfl
           simp only [Act.put, List.setIfInBounds_toArray, List.set_cons_zero, List.set_cons_succ])
        | (apply Flo.val; · rfl
           · (intro W hSw; (try dsimp only at hSw); go_simp; with_reducible rfl)
           simp only [Act.put, List.setIfInBounds_toArray, List.set_cons_zero, List.set_cons_succ])
        | (apply Flo.call; · rfl
           · (intro W hSw; go_simp; first | exact ⟨rfl, rfl⟩ | with_reducible rfl)
           · (intro W hSw
              first
               | (go_at_call 12; exact (hL.out _).mono (fun e w'' h => ⟨h.1, keep3 hSw h.2⟩))
               | (go_at_call 17; exact (bareB _ _ _ _).mono (fun e w'' h => ⟨h.1, keep3 hSw h.2⟩))
               | (go_at_call 19; exact (normalB _ _ _ _ (by omega) (by omega) (by first | omega | simp)).mono (fun e w'' h => ⟨h.1, keep3 hSw h.2⟩))
               | (go_at_call 15; exact (right_any _ _ _ _ (by omega) (by omega) (by first | omega | simp)).mono (fun e w'' h => ⟨h.1, keep3 hSw h.2⟩)))
           simp only [Act.put, List.setIfInBounds_toArray, List.set_cons_zero, List.set_cons_succ])
        | fail)
      intro W hSw
      go_wp2_with fail
      go_ret
      exact ⟨by simp, hSw.2.2.2.1⟩
    · have l3 : rightJ (lowL x) (lowL y) z = true := (rightJ_map letter_low x y z).trans hR
      have l4 : rightJ x y [] = true := rightJ_bare hR
      refine wp_region_float (by kernel_rfl) (by kernel_rfl) (fun W => (W.cell? ⟨w.heap.size, 0, none⟩ = some (.string ⟨x.toArray⟩) ∧ W.cell? ⟨w.heap.size, 1, none⟩ = some (.string ⟨y.toArray⟩) ∧ W.cell? ⟨w.heap.size, 2, none⟩ = some (.string ⟨z.toArray⟩)) ∧ (W.cell? ⟨g, 0, none⟩ = some (.string ⟨x.toArray⟩) ∧ W.cell? ⟨g, 1, none⟩ = some (.string ⟨y.toArray⟩) ∧ W.cell? ⟨g, 2, none⟩ = some (.string ⟨#[]⟩)) ∧ (W.cell? ⟨k, 0, none⟩ = some (.string ⟨(lowL x).toArray⟩) ∧ W.cell? ⟨k, 1, none⟩ = some (.string ⟨(lowL y).toArray⟩) ∧ W.cell? ⟨k, 2, none⟩ = some (.string ⟨z.toArray⟩)) ∧ Below w.heap.size w W ∧ w.heap.size < W.heap.size ∧ g < W.heap.size ∧ k < W.heap.size) K ?_
      simp only [List.toList_toArray]
      repeat (first
        | (apply Flo.skip; · rfl
           simp only [Act.put, List.setIfInBounds_toArray, List.set_cons_zero, List.set_cons_succ])
        | (apply Flo.val; · rfl
           · (intro W hSw; (try dsimp only at hSw); go_simp; with_reducible rfl)
           simp only [Act.put, List.setIfInBounds_toArray, List.set_cons_zero, List.set_cons_succ])
        | (apply Flo.call; · rfl
           · (intro W hSw; go_simp; first | exact ⟨rfl, rfl⟩ | with_reducible rfl)
           · (intro W hSw
              first
               | (go_at_call 12; exact (hL.out _).mono (fun e w'' h => ⟨h.1, keep3 hSw h.2⟩))
               | (go_at_call 17; exact (bareB _ _ _ _).mono (fun e w'' h => ⟨h.1, keep3 hSw h.2⟩))
               | (go_at_call 19; exact (normalB _ _ _ _ (by omega) (by omega) (by first | omega | simp)).mono (fun e w'' h => ⟨h.1, keep3 hSw h.2⟩))
               | (go_at_call 15; exact (right_any _ _ _ _ (by omega) (by omega) (by first | omega | simp)).mono (fun e w'' h => ⟨h.1, keep3 hSw h.2⟩)))
           simp only [Act.put, List.setIfInBounds_toArray, List.set_cons_zero, List.set_cons_succ])
        | fail)
      intro W hSw
      go_wp2_with fail
      go_ret
      exact ⟨by simp, hSw.2.2.2.1⟩
end Go.Proofs.Ytpfipkdnjoihdaa
