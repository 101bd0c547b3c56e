/-
  The walk of CollectLooks. Printed by wip/tools/gencollect.py.
-/
import Derived.Test.YtgodmppmiamhaaaCoWUndoes
namespace Go.Proofs.Ytgodmppmiamhaaa
set_option linter.unusedVariables false
set_option linter.unusedSimpArgs false
open Go.RowKit Go.MapKept Go.Shelf
theorem sameS_self (l : List Txt) (hl : l.length ≤ 1000) (v1 v2 : Value) (W : World) (h1 : StS W v1 l) (h2 : StS W v2 l) : Calls Try.prog 18 #[v1, v2] W fun e w' => e = .returned (.bool true) ∧ Below W.heap.size W w' :=
  (sameS_any v1 v2 l l W h1 h2 hl).mono (fun e w' ⟨h, hb⟩ => ⟨by rw [h, decide_eq_true_iff.2 rfl], hb⟩)
theorem kidsE_len (E : Ats) (s : Txt) : (kidsE E s).length ≤ E.length := by
  unfold kidsE
  split
  · rw [List.length_map]; exact List.length_filter_le _ _
  · simp
theorem belowE_len (E : Ats) (s : Txt) : (belowE E s).length ≤ E.length := by
  unfold belowE
  split
  · rw [List.length_map]; exact List.length_filter_le _ _
  · simp
theorem upsE_len (E : Ats) (s : Txt) : (upsE E s).length ≤ E.length := by
  unfold upsE
  split
  · exact upF_len _ _
  · simp
set_option maxHeartbeats 2000000 in
theorem looks_of (v : Value) (E F : Ats) (s : Txt) (w : World) (hA : AtS w v E) (hF : F = E.take 66) :
    Calls Try.prog 5 #[v, .string ⟨s.toArray⟩] w fun e w' => e = .returned (.bool true) ∧ Below w.heap.size w w' := by
  have hFl : F.length ≤ 66 := by rw [hF, List.length_take]; omega
  have hFew := few_any v E w hA
  rw [← hF] at hFew
  have hb0 := Lib.hid (Below.refl w.heap.size w)
  have hLive := Lib.hid live_any
  have hP1 := fun (v : Value) W1 (h : AtS W1 v F) => coParent_any v F s W1 h (by omega)
  have hP2 := fun (v : Value) W1 (h : AtS W1 v F) => refPar_any v F s W1 h (by omega)
  have hK1 := fun (v : Value) W1 (h : AtS W1 v F) => kids_any v F s W1 h (by omega)
  have hK2 := fun (v : Value) W1 (h : AtS W1 v F) => refKids_any v F s W1 h (by omega)
  have hU1 := fun (v : Value) W1 (h : AtS W1 v F) => above_any v F s W1 h (by omega)
  have hU2 := fun (v : Value) W1 (h : AtS W1 v F) => refUps_any v F s W1 h (by omega)
  have hB1 := fun (v : Value) W1 (h : AtS W1 v F) => below_any v F s W1 h (by omega)
  have hB2 := fun (v : Value) W1 (h : AtS W1 v F) => refBelow_any v F s W1 h (by omega)
  have hlk := Nat.le_trans (Nat.le_trans (kidsE_len F s) hFl) (show 66 ≤ 1000 by omega)
  have hlu := Nat.le_trans (Nat.le_trans (upsE_len F s) hFl) (show 66 ≤ 1000 by omega)
  have hlb := Nat.le_trans (Nat.le_trans (belowE_len F s) hFl) (show 66 ≤ 1000 by omega)
  have hSa := Lib.hid sameS_self
  obtain ⟨va, vn, vc, rfl⟩ : ∃ a n c, v = .slice a n c := by obtain ⟨a, c, h, -⟩ := hA; exact ⟨a, _, c, h⟩
  generalize parR F s = q at hP1 hP2
  generalize q.getD [] = q1 at hP1 hP2
  generalize q.isSome = q2 at hP1 hP2
  generalize kidsE F s = k at hK1 hK2 hlk
  generalize upsE F s = u at hU1 hU2 hlu
  generalize belowE F s = b at hB1 hB2 hlb
  clear hA hF
  replace hFew := Lib.hid hFew
  replace hP1 := Lib.hid hP1
  replace hP2 := Lib.hid hP2
  replace hK1 := Lib.hid hK1
  replace hK2 := Lib.hid hK2
  replace hU1 := Lib.hid hU1
  replace hU2 := Lib.hid hU2
  replace hB1 := Lib.hid hB1
  replace hB2 := Lib.hid hB2
  replace hlk := Lib.hid hlk
  replace hlu := Lib.hid hlu
  replace hlb := Lib.hid hlb
  go_enter Try.func5, Try.ntmps5
  go_wp2_with (first
    | (have m0 := hb12; go_at_call 18; refine (hSa.out _ hlb.out _ _ _ hS5.out hS6.out).mono ?_; rintro e w13 ⟨rfl, hbn⟩; replace hA1 := Lib.hid (hA1.out.below hbn); replace hS1 := Lib.hid (hS1.out.below hbn); replace hS2 := Lib.hid (hS2.out.below hbn); replace hS3 := Lib.hid (hS3.out.below hbn); replace hS4 := Lib.hid (hS4.out.below hbn); replace hS5 := Lib.hid (hS5.out.below hbn); replace hS6 := Lib.hid (hS6.out.below hbn); have hb13 := Lib.hid (belowT hb12.out hbn); clear hbn)
    | (have m0 := hb11; go_at_call 22; refine (hB2.out _ _ hA1.out).mono ?_; rintro e w12 ⟨sv11, rfl, hS6, hbn⟩; obtain ⟨a11, c11, rfl⟩ : ∃ a c', sv11 = .slice a b.length c' := (by obtain ⟨a, c, h, -⟩ := hS6; exact ⟨a, c, h⟩); replace hS6 := Lib.hid hS6; replace hA1 := Lib.hid (hA1.out.below hbn); replace hS1 := Lib.hid (hS1.out.below hbn); replace hS2 := Lib.hid (hS2.out.below hbn); replace hS3 := Lib.hid (hS3.out.below hbn); replace hS4 := Lib.hid (hS4.out.below hbn); replace hS5 := Lib.hid (hS5.out.below hbn); have hb12 := Lib.hid (belowT hb11.out hbn); clear hbn)
    | (have m0 := hb10; go_at_call 16; refine (hB1.out _ _ hA1.out).mono ?_; rintro e w11 ⟨sv10, rfl, hS5, hbn⟩; obtain ⟨a10, c10, rfl⟩ : ∃ a c', sv10 = .slice a b.length c' := (by obtain ⟨a, c, h, -⟩ := hS5; exact ⟨a, c, h⟩); replace hS5 := Lib.hid hS5; replace hA1 := Lib.hid (hA1.out.below hbn); replace hS1 := Lib.hid (hS1.out.below hbn); replace hS2 := Lib.hid (hS2.out.below hbn); replace hS3 := Lib.hid (hS3.out.below hbn); replace hS4 := Lib.hid (hS4.out.below hbn); have hb11 := Lib.hid (belowT hb10.out hbn); clear hbn)
    | (have m0 := hb9; go_at_call 18; refine (hSa.out _ hlu.out _ _ _ hS3.out hS4.out).mono ?_; rintro e w10 ⟨rfl, hbn⟩; replace hA1 := Lib.hid (hA1.out.below hbn); replace hS1 := Lib.hid (hS1.out.below hbn); replace hS2 := Lib.hid (hS2.out.below hbn); replace hS3 := Lib.hid (hS3.out.below hbn); replace hS4 := Lib.hid (hS4.out.below hbn); have hb10 := Lib.hid (belowT hb9.out hbn); clear hbn)
    | (have m0 := hb8; go_at_call 21; refine (hU2.out _ _ hA1.out).mono ?_; rintro e w9 ⟨sv8, rfl, hS4, hbn⟩; obtain ⟨a8, c8, rfl⟩ : ∃ a c', sv8 = .slice a u.length c' := (by obtain ⟨a, c, h, -⟩ := hS4; exact ⟨a, c, h⟩); replace hS4 := Lib.hid hS4; replace hA1 := Lib.hid (hA1.out.below hbn); replace hS1 := Lib.hid (hS1.out.below hbn); replace hS2 := Lib.hid (hS2.out.below hbn); replace hS3 := Lib.hid (hS3.out.below hbn); have hb9 := Lib.hid (belowT hb8.out hbn); clear hbn)
    | (have m0 := hb7; go_at_call 15; refine (hU1.out _ _ hA1.out).mono ?_; rintro e w8 ⟨sv7, rfl, hS3, hbn⟩; obtain ⟨a7, c7, rfl⟩ : ∃ a c', sv7 = .slice a u.length c' := (by obtain ⟨a, c, h, -⟩ := hS3; exact ⟨a, c, h⟩); replace hS3 := Lib.hid hS3; replace hA1 := Lib.hid (hA1.out.below hbn); replace hS1 := Lib.hid (hS1.out.below hbn); replace hS2 := Lib.hid (hS2.out.below hbn); have hb8 := Lib.hid (belowT hb7.out hbn); clear hbn)
    | (have m0 := hb6; go_at_call 18; refine (hSa.out _ hlk.out _ _ _ hS1.out hS2.out).mono ?_; rintro e w7 ⟨rfl, hbn⟩; replace hA1 := Lib.hid (hA1.out.below hbn); replace hS1 := Lib.hid (hS1.out.below hbn); replace hS2 := Lib.hid (hS2.out.below hbn); have hb7 := Lib.hid (belowT hb6.out hbn); clear hbn)
    | (have m0 := hb5; go_at_call 20; refine (hK2.out _ _ hA1.out).mono ?_; rintro e w6 ⟨sv5, rfl, hS2, hbn⟩; obtain ⟨a5, c5, rfl⟩ : ∃ a c', sv5 = .slice a k.length c' := (by obtain ⟨a, c, h, -⟩ := hS2; exact ⟨a, c, h⟩); replace hS2 := Lib.hid hS2; replace hA1 := Lib.hid (hA1.out.below hbn); replace hS1 := Lib.hid (hS1.out.below hbn); have hb6 := Lib.hid (belowT hb5.out hbn); clear hbn)
    | (have m0 := hb4; go_at_call 19; refine (hK1.out _ _ hA1.out).mono ?_; rintro e w5 ⟨sv4, rfl, hS1, hbn⟩; obtain ⟨a4, c4, rfl⟩ : ∃ a c', sv4 = .slice a k.length c' := (by obtain ⟨a, c, h, -⟩ := hS1; exact ⟨a, c, h⟩); replace hS1 := Lib.hid hS1; replace hA1 := Lib.hid (hA1.out.below hbn); have hb5 := Lib.hid (belowT hb4.out hbn); clear hbn)
    | (have m0 := hb3; go_at_call 13; refine (hLive.out _).mono ?_; rintro e w4 ⟨rfl, hbn⟩; replace hA1 := Lib.hid (hA1.out.below hbn); have hb4 := Lib.hid (belowT hb3.out hbn); clear hbn)
    | (have m0 := hb2; go_at_call 17; refine (hP2.out _ _ hA1.out).mono ?_; rintro e w3 ⟨rfl, hbn⟩; replace hA1 := Lib.hid (hA1.out.below hbn); have hb3 := Lib.hid (belowT hb2.out hbn); clear hbn)
    | (have m0 := hb1; go_at_call 12; refine (hP1.out _ _ hA1.out).mono ?_; rintro e w2 ⟨rfl, hbn⟩; replace hA1 := Lib.hid (hA1.out.below hbn); have hb2 := Lib.hid (belowT hb1.out hbn); clear hbn)
    | (have m0 := hb0; go_at_call 14; refine (hFew.out).mono ?_; rintro e w1 ⟨sv0, rfl, hA1, rfl⟩; obtain ⟨a0, c0, rfl⟩ : ∃ a c', sv0 = .slice a F.length c' := (by obtain ⟨a, c, h, -⟩ := hA1; exact ⟨a, c, h⟩); replace hA1 := Lib.hid hA1; have hb1 := hb0))
  go_ret
  exact ⟨by simp, hb13.out⟩
theorem collectLooks_walk (v : Value) (E : Ats) (s : Txt) (w : World) (hA : AtS w v E) :
    Calls Try.prog 5 #[v, .string ⟨s.toArray⟩] w fun e w' => e = .returned (.bool true) ∧ Below w.heap.size w w' := looks_of v E _ s w hA rfl
end Go.Proofs.Ytgodmppmiamhaaa
