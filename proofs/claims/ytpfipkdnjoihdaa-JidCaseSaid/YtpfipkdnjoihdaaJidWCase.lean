/-
  The walk of JidCase: addresses that differ in capital letters alone have one normal form.
-/
import Derived.Test.YtpfipkdnjoihdaaJidLive
import Derived.Deep.RegionHeld3
import Derived.Deep.DeepCutAuto
namespace Go.Proofs.Ytpfipkdnjoihdaa
set_option linter.unusedVariables false
set_option linter.unusedSimpArgs false
open Go.RowKit
attribute [local go_sem] setCell_drewN alloc_drewN drewN_drewN drew_drewN drewN_drew mk_get lt2 lt3 lt4 lt5 lt6 lt7 lt8 lt9 lt10 lt11 lt12
theorem keep2 {w W w' : World} {B g : Nat} {a b c a' b' c' : Value} (hS : (W.cell? ⟨B, 0, none⟩ = some a ∧ W.cell? ⟨B, 1, none⟩ = some b ∧ W.cell? ⟨B, 2, none⟩ = some c) ∧ (W.cell? ⟨g, 0, none⟩ = some a' ∧ W.cell? ⟨g, 1, none⟩ = some b' ∧ W.cell? ⟨g, 2, none⟩ = some c') ∧ Below w.heap.size w W ∧ B < W.heap.size ∧ g < W.heap.size) (hb : Below W.heap.size W w') :
    (w'.cell? ⟨B, 0, none⟩ = some a ∧ w'.cell? ⟨B, 1, none⟩ = some b ∧ w'.cell? ⟨B, 2, none⟩ = some c) ∧ (w'.cell? ⟨g, 0, none⟩ = some a' ∧ w'.cell? ⟨g, 1, none⟩ = some b' ∧ w'.cell? ⟨g, 2, none⟩ = some c') ∧ Below w.heap.size w w' ∧ B < w'.heap.size ∧ g < w'.heap.size := by
  obtain ⟨⟨h1, h2, h3⟩, ⟨h4, h5, h6⟩, h7, h8, h9⟩ := hS
  obtain ⟨hc, -⟩ := bat hb B h8
  obtain ⟨hd, -⟩ := bat hb g h9
  exact ⟨⟨(hc 0).trans h1, (hc 1).trans h2, (hc 2).trans h3⟩, ⟨(hd 0).trans h4, (hd 1).trans h5, (hd 2).trans h6⟩, belowT h7 hb, Nat.lt_of_lt_of_le h8 hb.size, Nat.lt_of_lt_of_le h9 hb.size⟩
set_option maxHeartbeats 4000000 in
theorem jidCase_walk (x y z : List UInt8) (w : World) (hx : x.length ≤ 140737488351232) (hy : y.length ≤ 140737488351232) (hz : z.length ≤ 140737488351232) :
    Calls Try.prog 9 #[.agg #[.string ⟨x.toArray⟩, .string ⟨y.toArray⟩, .string ⟨z.toArray⟩]] w fun e w' => e = .returned (.bool true) ∧ Below w.heap.size w w' := by
  have hL := Lib.hid live_any
  by_cases hsz : x.length ≤ 100 ∧ y.length ≤ 100
  · obtain ⟨q1, q2⟩ := hsz
    have u1 : (upL x).length ≤ 140737488351232 := by rw [length_up]; omega
    have u2 : (upL y).length ≤ 140737488351232 := by rw [length_up]; omega
    have l1 := lowL_upL x
    have l2 := lowL_upL y
    have l3 : rightJ (upL x) (upL y) z = rightJ x y z := rightJ_map letter_up x y z
    go_enter Try.func9, Try.ntmps9
    go_upto_region 3 with (fail)
    go_cut [3] (fun v3 W => ∃ g : Nat, v3 = .pointer (some ⟨g, 0, none⟩) ∧ (W.cell? ⟨w.heap.size, 0, none⟩ = some (.string ⟨x.toArray⟩) ∧ W.cell? ⟨w.heap.size, 1, none⟩ = some (.string ⟨y.toArray⟩) ∧ W.cell? ⟨w.heap.size, 2, none⟩ = some (.string ⟨z.toArray⟩)) ∧ (W.cell? ⟨g, 0, none⟩ = some (.string ⟨(upL x).toArray⟩) ∧ W.cell? ⟨g, 1, none⟩ = some (.string ⟨(upL y).toArray⟩) ∧ W.cell? ⟨g, 2, none⟩ = some (.string ⟨z.toArray⟩)) ∧ Below w.heap.size w W ∧ w.heap.size < W.heap.size ∧ g < W.heap.size)
    case first =>
      go_region_held3 (fun W => W.cell? ⟨w.heap.size, 0, none⟩ = some (.string ⟨x.toArray⟩) ∧ W.cell? ⟨w.heap.size, 1, none⟩ = some (.string ⟨y.toArray⟩) ∧ W.cell? ⟨w.heap.size, 2, none⟩ = some (.string ⟨z.toArray⟩)) (simp [go_sem])
        (first
          | (go_at_call 21; refine (upper_any _ _ (by omega)).mono ?_; rintro e w1 ⟨rfl, o1, n1, rfl⟩))
      all_goals go_wp2_with fail
      all_goals go_meet
      all_goals (refine ⟨_, rfl, ⟨by simp [go_sem], by simp [go_sem], by simp [go_sem]⟩, ⟨by simp [go_sem], by simp [go_sem], by simp [go_sem]⟩, ?_, by simp [go_sem] <;> omega, by simp [go_sem] <;> omega⟩; exact belowN (belowA (belowA (belowA (below1 w _) _) _) _) _)
    case rest =>
      obtain ⟨g, rfl, hB, hg, hW, s1, s2⟩ := hcut
      have K0 := Lib.hid (⟨hB, hg, hW, s1, s2⟩ : _ ∧ _ ∧ _ ∧ _ ∧ _)
      clear hB hg hW s1 s2
      go_wp2_with fail
      have K := keep2 K0.out ((Below.refl _ _).drew)
      go_region_held3 (fun W => (W.cell? ⟨w.heap.size, 0, none⟩ = some (.string ⟨x.toArray⟩) ∧ W.cell? ⟨w.heap.size, 1, none⟩ = some (.string ⟨y.toArray⟩) ∧ W.cell? ⟨w.heap.size, 2, none⟩ = some (.string ⟨z.toArray⟩)) ∧ (W.cell? ⟨g, 0, none⟩ = some (.string ⟨(upL x).toArray⟩) ∧ W.cell? ⟨g, 1, none⟩ = some (.string ⟨(upL y).toArray⟩) ∧ W.cell? ⟨g, 2, none⟩ = some (.string ⟨z.toArray⟩)) ∧ Below w.heap.size w W ∧ w.heap.size < W.heap.size ∧ g < W.heap.size) (first | exact keep2 (by assumption) hb | exact K | exact keep2 (by assumption) ((Below.refl _ _).drew))
        (first
          | (go_at_call 12; refine (hL.out _).mono ?_; rintro e w3 ⟨rfl, hb⟩)
          | (go_at_call 19; refine (normalB _ _ _ _ (by omega) (by omega) (by omega)).mono ?_; rintro e w3 ⟨rfl, hb⟩)
          | (go_at_call 15; refine (right_any _ _ _ _ (by omega) (by omega) (by omega)).mono ?_; rintro e w3 ⟨rfl, hb⟩))
      go_wp2
      go_ret
      exact ⟨by simp [l1, l2, l3], (by assumption : _ ∧ _ ∧ _ ∧ _ ∧ _).2.2.1⟩
  · by_cases q1 : x.length ≤ 100
    · have q2 : ¬ y.length ≤ 100 := fun h => hsz ⟨q1, h⟩
      clear hsz
      go_enter Try.func9, Try.ntmps9
      go_wp2_with (first | (go_at_call 12; refine (hL.out _).mono ?_; rintro e w3 ⟨rfl, hb⟩))
      go_ret
      exact ⟨rfl, below1t hb⟩
    · clear hsz
      go_enter Try.func9, Try.ntmps9
      go_wp2_with (first | (go_at_call 12; refine (hL.out _).mono ?_; rintro e w3 ⟨rfl, hb⟩))
      go_ret
      exact ⟨rfl, below1t hb⟩
end Go.Proofs.Ytpfipkdnjoihdaa
