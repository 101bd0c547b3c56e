/-
  The walk of CollectAdds. Printed by wip/tools/gencollect.py.
-/
import Derived.Test.YtgodmppmiamhaaaCoWUndoes
namespace Go.Proofs.Ytgodmppmiamhaaa
set_option linter.unusedVariables false
set_option linter.unusedSimpArgs false
open Go.RowKit Go.MapKept Go.Shelf
theorem add_len (E : Ats) (c p : Txt) : (addE E c p).1.length ≤ E.length + 1 := by
  by_cases h : (addE E c p).2 = 0
  · obtain ⟨h1, h2, h3, h4, h5, h6, h7⟩ := add_ok h
    rw [h7, ins_len c p (right_parts h3).2.2.1]
    split <;> omega
  · rw [add_err h]; simp
theorem del_len (E : Ats) (c : Txt) : (delE E c).1.length ≤ E.length := by
  unfold delE
  split
  · simp
  · split
    · simp
    · exact List.length_filter_le _ _
set_option maxHeartbeats 2000000 in
theorem adds_of (v : Value) (E F : Ats) (c p : Txt) (w : World) (hA : AtS w v E) (hF : F = E.take 66) :
    Calls Try.prog 7 #[v, .string ⟨c.toArray⟩, .string ⟨p.toArray⟩] w fun e w' => e = .returned (.bool true) ∧ Below w.heap.size w w' := by
  have hFl : F.length ≤ 66 := by rw [hF, List.length_take]; omega
  have hFew := few_any v E w hA
  rw [← hF] at hFew
  have hb0 := Lib.hid (Below.refl w.heap.size w)
  have hLive := Lib.hid live_any
  have hP1 := fun (v : Value) W1 (h : AtS W1 v F) => add_any v F c p W1 h (by omega)
  have hP2 := fun (v : Value) W1 (h : AtS W1 v F) => refAdd_any v F c p W1 h (by omega)
  have hR1 := fun (v : Value) W1 (h : AtS W1 v F) => remove_any v F c W1 h (by omega)
  have hR2 := fun (v : Value) W1 (h : AtS W1 v F) => refRemove_any v F c W1 h (by omega)
  have hC1 := fun (v : Value) W1 (h : AtS W1 v F) => coRight_any v F W1 h (by omega)
  have hC2 := fun (v : Value) W1 (h : AtS W1 v F) => refRight_any v F W1 h (by omega)
  have hlm := Nat.le_trans (Nat.le_trans (add_len F c p) (Nat.add_le_add_right hFl 1)) (show 67 ≤ 1000 by omega)
  have hld := Nat.le_trans (Nat.le_trans (del_len F c) hFl) (show 66 ≤ 1000 by omega)
  obtain ⟨va, vn, vc, rfl⟩ : ∃ a n c, v = .slice a n c := by obtain ⟨a, c, h, -⟩ := hA; exact ⟨a, _, c, h⟩
  generalize addE F c p = r at hP1 hP2 hlm
  obtain ⟨m, k⟩ := r
  generalize delE F c = r2 at hR1 hR2 hld
  obtain ⟨d, k2⟩ := r2
  simp only at hlm hld
  generalize rightE F = rb at hC1 hC2
  clear hA hF
  replace hFew := Lib.hid hFew
  replace hP1 := Lib.hid hP1
  replace hP2 := Lib.hid hP2
  replace hR1 := Lib.hid hR1
  replace hR2 := Lib.hid hR2
  replace hC1 := Lib.hid hC1
  replace hC2 := Lib.hid hC2
  replace hlm := Lib.hid hlm
  replace hld := Lib.hid hld
  go_enter Try.func7, Try.ntmps7
  go_wp2_with (first
    | (have m0 := hb9; go_at_call 28; refine (hC2.out _ _ hA1.out).mono ?_; rintro e w10 ⟨rfl, hbn⟩; replace hA1 := Lib.hid (hA1.out.below hbn); replace hS1 := Lib.hid (hS1.out.below hbn); replace hS2 := Lib.hid (hS2.out.below hbn); replace hS3 := Lib.hid (hS3.out.below hbn); replace hS4 := Lib.hid (hS4.out.below hbn); have hb10 := Lib.hid (belowT hb9.out hbn); clear hbn)
    | (have m0 := hb8; go_at_call 11; refine (hC1.out _ _ hA1.out).mono ?_; rintro e w9 ⟨rfl, hbn⟩; replace hA1 := Lib.hid (hA1.out.below hbn); replace hS1 := Lib.hid (hS1.out.below hbn); replace hS2 := Lib.hid (hS2.out.below hbn); replace hS3 := Lib.hid (hS3.out.below hbn); replace hS4 := Lib.hid (hS4.out.below hbn); have hb9 := Lib.hid (belowT hb8.out hbn); clear hbn)
    | (have m0 := hb7; go_at_call 27; refine (sameE_self _ _ d _ hS3.out hS4.out hld.out).mono ?_; rintro e w8 ⟨rfl, hbn⟩; replace hA1 := Lib.hid (hA1.out.below hbn); replace hS1 := Lib.hid (hS1.out.below hbn); replace hS2 := Lib.hid (hS2.out.below hbn); replace hS3 := Lib.hid (hS3.out.below hbn); replace hS4 := Lib.hid (hS4.out.below hbn); have hb8 := Lib.hid (belowT hb7.out hbn); clear hbn)
    | (have m0 := hb6; go_at_call 27; refine (sameE_self _ _ m _ hS1.out hS2.out hlm.out).mono ?_; rintro e w7 ⟨rfl, hbn⟩; replace hA1 := Lib.hid (hA1.out.below hbn); replace hS1 := Lib.hid (hS1.out.below hbn); replace hS2 := Lib.hid (hS2.out.below hbn); replace hS3 := Lib.hid (hS3.out.below hbn); replace hS4 := Lib.hid (hS4.out.below hbn); have hb7 := Lib.hid (belowT hb6.out hbn); clear hbn)
    | (have m0 := hb5; go_at_call 13; refine (hLive.out _).mono ?_; rintro e w6 ⟨rfl, hbn⟩; replace hA1 := Lib.hid (hA1.out.below hbn); replace hS1 := Lib.hid (hS1.out.below hbn); replace hS2 := Lib.hid (hS2.out.below hbn); replace hS3 := Lib.hid (hS3.out.below hbn); replace hS4 := Lib.hid (hS4.out.below hbn); have hb6 := Lib.hid (belowT hb5.out hbn); clear hbn)
    | (have m0 := hb4; go_at_call 26; refine (hR2.out _ _ hA1.out).mono ?_; rintro e w5 ⟨⟨sv4, rfl, hS4⟩, hbn⟩; obtain ⟨a4, c4, rfl⟩ : ∃ a c', sv4 = .slice a d.length c' := (by obtain ⟨a, c, h, -⟩ := hS4; exact ⟨a, c, h⟩); replace hS4 := Lib.hid hS4; replace hA1 := Lib.hid (hA1.out.below hbn); replace hS1 := Lib.hid (hS1.out.below hbn); replace hS2 := Lib.hid (hS2.out.below hbn); replace hS3 := Lib.hid (hS3.out.below hbn); have hb5 := Lib.hid (belowT hb4.out hbn); clear hbn)
    | (have m0 := hb3; go_at_call 25; refine (hR1.out _ _ hA1.out).mono ?_; rintro e w4 ⟨⟨sv3, rfl, hS3⟩, hbn⟩; obtain ⟨a3, c3, rfl⟩ : ∃ a c', sv3 = .slice a d.length c' := (by obtain ⟨a, c, h, -⟩ := hS3; exact ⟨a, c, h⟩); replace hS3 := Lib.hid hS3; replace hA1 := Lib.hid (hA1.out.below hbn); replace hS1 := Lib.hid (hS1.out.below hbn); replace hS2 := Lib.hid (hS2.out.below hbn); have hb4 := Lib.hid (belowT hb3.out hbn); clear hbn)
    | (have m0 := hb2; go_at_call 24; refine (hP2.out _ _ hA1.out).mono ?_; rintro e w3 ⟨⟨sv2, rfl, hS2⟩, hbn⟩; obtain ⟨a2, c2, rfl⟩ : ∃ a c', sv2 = .slice a m.length c' := (by obtain ⟨a, c, h, -⟩ := hS2; exact ⟨a, c, h⟩); replace hS2 := Lib.hid hS2; replace hA1 := Lib.hid (hA1.out.below hbn); replace hS1 := Lib.hid (hS1.out.below hbn); have hb3 := Lib.hid (belowT hb2.out hbn); clear hbn)
    | (have m0 := hb1; go_at_call 10; refine (hP1.out _ _ hA1.out).mono ?_; rintro e w2 ⟨⟨sv1, rfl, hS1⟩, hbn⟩; obtain ⟨a1, c1, rfl⟩ : ∃ a c', sv1 = .slice a m.length c' := (by obtain ⟨a, c, h, -⟩ := hS1; exact ⟨a, c, h⟩); replace hS1 := Lib.hid hS1; replace hA1 := Lib.hid (hA1.out.below hbn); have hb2 := Lib.hid (belowT hb1.out hbn); clear hbn)
    | (have m0 := hb0; go_at_call 14; refine (hFew.out).mono ?_; rintro e w1 ⟨sv0, rfl, hA1, rfl⟩; obtain ⟨a0, c0, rfl⟩ : ∃ a c', sv0 = .slice a F.length c' := (by obtain ⟨a, c, h, -⟩ := hA1; exact ⟨a, c, h⟩); replace hA1 := Lib.hid hA1; have hb1 := hb0))
  go_ret
  exact ⟨by simp, hb10.out⟩
theorem collectAdds_walk (v : Value) (E : Ats) (c p : Txt) (w : World) (hA : AtS w v E) :
    Calls Try.prog 7 #[v, .string ⟨c.toArray⟩, .string ⟨p.toArray⟩] w fun e w' => e = .returned (.bool true) ∧ Below w.heap.size w w' := adds_of v E _ c p w hA rfl
end Go.Proofs.Ytgodmppmiamhaaa
