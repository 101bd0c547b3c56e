/-
  The payload of a notification of an item (request.Event), by the program. No condition.
-/
import Derived.Test.YtmapinediglimaaDoorRqTab
import Derived.Test.YtmapinediglimaaDoorWrElem3
import Derived.Test.YtmapinediglimaaDoorRqApp
import Derived.Deep.RegionHeld3
import Derived.Deep.DeepCutAuto
namespace Go.Proofs.YtmapinediglimaaDoor
set_option linter.unusedVariables false
set_option linter.unusedSimpArgs false
open Go.RowKit Go.MapKept
attribute [local go_sem] setCell_drewN alloc_drewN drewN_drewN drew_drewN drewN_drew mk_get lt2 lt3 lt4 lt5 lt6 lt7 lt8
def eventW : List UInt8 := [101, 118, 101, 110, 116]
def idW : List UInt8 := [105, 100]
def evL (nd it tx : List UInt8) : List Tk := elemL eventW [] (elemL itemW [(nodeW, nd), (idW, it)] (insideR tx))
theorem at_two (W : World) (n : Nat) (hn : n = W.heap.size) (a b c d : List UInt8) : AtS (W.alloc (.cells #[.string ⟨a.toArray⟩, .string ⟨b.toArray⟩, .string ⟨c.toArray⟩, .string ⟨d.toArray⟩] 35)) (.slice (some ⟨n, 0, none⟩) 2 2) [(a, b), (c, d)] := by
  subst hn
  refine ⟨_, 2, rfl, by simp, by unfold maxLen; omega, fun _ => ⟨W.heap.size, 0, rfl, by simp, fun i hi => ?_⟩⟩
  have hi2 : i < 2 := by simpa using hi
  obtain rfl | rfl : i = 0 ∨ i = 1 := by omega
  · simp
  · simp
theorem keepE {wc W w' : World} {g h B : Nat} {a b c d e : Value} (hS : W.cell? ⟨g, 0, none⟩ = some a ∧ W.cell? ⟨g, 1, none⟩ = some b ∧ W.cell? ⟨h, 0, none⟩ = some c ∧ W.cell? ⟨h, 1, none⟩ = some d ∧ W.cell? ⟨B, 3, none⟩ = some e ∧ Below wc.heap.size wc W) (lg : g < wc.heap.size) (lh : h < wc.heap.size) (lw : B < wc.heap.size) (hb : Below W.heap.size W w') :
    w'.cell? ⟨g, 0, none⟩ = some a ∧ w'.cell? ⟨g, 1, none⟩ = some b ∧ w'.cell? ⟨h, 0, none⟩ = some c ∧ w'.cell? ⟨h, 1, none⟩ = some d ∧ w'.cell? ⟨B, 3, none⟩ = some e ∧ Below wc.heap.size wc w' := by
  obtain ⟨h1, h2, h3, h4, h5, h6⟩ := hS
  have hs := h6.size
  obtain ⟨cg, -⟩ := bat hb g (by omega)
  obtain ⟨ch, -⟩ := bat hb h (by omega)
  obtain ⟨cB, -⟩ := bat hb B (by omega)
  exact ⟨(cg 0).trans h1, (cg 1).trans h2, (ch 0).trans h3, (ch 1).trans h4, (cB 3).trans h5, belowT h6 hb⟩
set_option maxRecDepth 100000 in
set_option maxHeartbeats 16000000 in
theorem event_any (nd it tx : List UInt8) (w : World) :
    Calls Tryd.prog 13 #[.agg #[.string ⟨#[97, 64, 100]⟩, .string ⟨nd.toArray⟩, .string ⟨it.toArray⟩, .string ⟨tx.toArray⟩, .bool false]] w fun e w' => ∃ v, e = .returned v ∧ TkS w' v (evL nd it tx) ∧ Below w.heap.size w w' := by
  have hat : ∀ tk ∈ insideR tx, tk.as.length * 32 ≤ 140737488351232 := fun tk ht => by
    unfold insideR at ht
    split at ht
    · cases ht
    · simp only [List.mem_cons, List.mem_nil_iff, or_false] at ht
      subst ht
      simp
  have hil : (insideR tx).length ≤ 1 := by unfold insideR; split <;> simp
  have hE1 : Hid (∀ W v4 v6, AtS W v4 [(nodeW, nd), (idW, it)] → TkS W v6 (insideR tx) → Calls Tryd.prog 20 #[.string ⟨#[105, 116, 101, 109]⟩, v4, v6] W fun e w' => ∃ v, e = .returned v ∧ TkS w' v (elemL itemW [(nodeW, nd), (idW, it)] (insideR tx)) ∧ Below W.heap.size W w') :=
    Lib.hid fun W v4 v6 h4 h6 => element_any itemW _ _ _ _ W h4 (by simp) h6 (by omega) hat
  have hE2 : Hid (∀ W v7, TkS W v7 (elemL itemW [(nodeW, nd), (idW, it)] (insideR tx)) → Calls Tryd.prog 20 #[.string ⟨#[101, 118, 101, 110, 116]⟩, .slice none 0 0, v7] W fun e w' => ∃ v, e = .returned v ∧ TkS w' v (evL nd it tx) ∧ Below W.heap.size W w') :=
    Lib.hid fun W v7 h7 => element_any eventW _ _ [] _ W (at_nil _ 0 (Nat.zero_le _)) (by simp) h7 (by simp [elemL]; omega) (fun tk ht => by
      unfold elemL at ht
      simp only [List.mem_cons, List.mem_append, List.mem_nil_iff, or_false] at ht
      rcases ht with rfl | ht | rfl
      · simp
      · exact hat tk ht
      · simp)
  have hIn : Hid (∀ W, Calls Tryd.prog 22 #[.string ⟨tx.toArray⟩] W fun e w' => ∃ v, e = .returned v ∧ TkS w' v (insideR tx) ∧ Below W.heap.size W w') := Lib.hid fun W => inside_any _ W
  clear hat hil
  generalize insideR tx = IV at hE1 hE2 hIn
  generalize hev : evL nd it tx = EV at hE2 ⊢
  generalize hin : elemL itemW [(nodeW, nd), (idW, it)] IV = IN at hE1 hE2
  clear hev hin
  go_enter Tryd.func13, Tryd.ntmps13
  go_upto_region 1 with (fail)
  go_cut [3, 4] (fun v3 v4 W => ∃ g h : Nat, v3 = .pointer (some ⟨g, 0, none⟩) ∧ v4 = .pointer (some ⟨h, 0, none⟩) ∧ (W.cell? ⟨g, 0, none⟩ = some (.string ⟨nodeW.toArray⟩) ∧ W.cell? ⟨g, 1, none⟩ = some (.string ⟨nd.toArray⟩)) ∧ (W.cell? ⟨h, 0, none⟩ = some (.string ⟨idW.toArray⟩) ∧ W.cell? ⟨h, 1, none⟩ = some (.string ⟨it.toArray⟩)) ∧ (W.cell? ⟨w.heap.size, 3, none⟩ = some (.string ⟨tx.toArray⟩) ∧ W.cell? ⟨w.heap.size, 4, none⟩ = some (.bool false)) ∧ Below w.heap.size w W ∧ g < W.heap.size ∧ h < W.heap.size ∧ w.heap.size < W.heap.size)
  case first =>
    go_region_held3 (fun W => W.cell? ⟨w.heap.size, 1, none⟩ = some (.string ⟨nd.toArray⟩) ∧ W.cell? ⟨w.heap.size, 2, none⟩ = some (.string ⟨it.toArray⟩) ∧ W.cell? ⟨w.heap.size, 3, none⟩ = some (.string ⟨tx.toArray⟩) ∧ W.cell? ⟨w.heap.size, 4, none⟩ = some (.bool false)) (simp [go_sem])
      (first
        | (go_at_call 15; refine (rqAttr_any _ _ _).mono ?_; rintro e w1 ⟨rfl, o1, rfl⟩))
    all_goals go_wp2_with fail
    all_goals go_meet
    all_goals
      refine ⟨_, _, rfl, rfl, ⟨by simp [go_sem, nodeW], by simp [go_sem]⟩, ⟨by simp [go_sem, idW], by simp [go_sem]⟩, ⟨by simp [go_sem], by simp [go_sem]⟩, ?_, by simp [go_sem] <;> omega, by simp [go_sem] <;> omega, by simp [go_sem] <;> omega⟩
      repeat (first | exact below1 w _ | refine Below.drew ?_ | (refine Below.alloc ?_ ?_ _; rotate_left; (simp only [World.size_alloc]; omega)))
  case rest =>
    obtain ⟨g, h, rfl, rfl, ⟨g0, g1⟩, ⟨h0, h1⟩, ⟨n3, n4⟩, hB, lg, lh, lw⟩ := hcut
    have hS0 : wc.drew.cell? ⟨g, 0, none⟩ = some (.string ⟨nodeW.toArray⟩) ∧ wc.drew.cell? ⟨g, 1, none⟩ = some (.string ⟨nd.toArray⟩) ∧ wc.drew.cell? ⟨h, 0, none⟩ = some (.string ⟨idW.toArray⟩) ∧ wc.drew.cell? ⟨h, 1, none⟩ = some (.string ⟨it.toArray⟩) ∧ wc.drew.cell? ⟨w.heap.size, 3, none⟩ = some (.string ⟨tx.toArray⟩) ∧ Below wc.heap.size wc wc.drew := ⟨g0, g1, h0, h1, n3, (Below.refl _ _).drew⟩
    have hA0 : Hid (AtS (wc.alloc (.cells #[.string ⟨nodeW.toArray⟩, .string ⟨nd.toArray⟩, .string ⟨idW.toArray⟩, .string ⟨it.toArray⟩] 35)).drew (.slice (some ⟨wc.heap.size, 0, none⟩) 2 2) [(nodeW, nd), (idW, it)]) := Lib.hid ((at_two wc _ rfl nodeW nd idW it).heq rfl)
    have hb0 := hB
    replace hB := Lib.hid hB
    go_wp2_with fail
    go_region_held3 (fun W => W.cell? ⟨g, 0, none⟩ = some (.string ⟨nodeW.toArray⟩) ∧ W.cell? ⟨g, 1, none⟩ = some (.string ⟨nd.toArray⟩) ∧ W.cell? ⟨h, 0, none⟩ = some (.string ⟨idW.toArray⟩) ∧ W.cell? ⟨h, 1, none⟩ = some (.string ⟨it.toArray⟩) ∧ W.cell? ⟨w.heap.size, 3, none⟩ = some (.string ⟨tx.toArray⟩) ∧ Below wc.heap.size wc W)
      (first | with_reducible assumption | with_reducible exact hS0 | exact keepE (by assumption) lg lh lw (below1 _ _) | exact keepE (by assumption) lg lh lw (by assumption))
      (first
        | (go_at_call 22; refine (hIn.out _).mono ?_; rintro e w4 ⟨v6, rfl, hv6, hb4⟩)
        | (go_at_call 20; refine (hE1.out _ _ _ (by first | exact hA0.out.below hb4 | exact at_two w4 _ rfl _ _ _ _) (by first | exact hv6 | exact hv6.below (below1 _ _))).mono ?_; rintro e w5 ⟨v7, rfl, hv7, hb5⟩))
    all_goals go_wp2_with (go_at_call 20; refine (hE2.out _ _ hv7).mono ?_; rintro e w6 ⟨v8, rfl, hv8, hb6⟩)
    all_goals go_ret
    all_goals refine ⟨_, rfl, hv8, belowT (belowT hB.out ?_) hb6⟩
    · exact belowT (belowT (((Below.refl _ _).alloc (Nat.le_refl _) _).drew) hb4) hb5
    · exact belowT (belowT (belowT (Below.refl _ _).drew hb4) (below1 _ _)) hb5
end Go.Proofs.YtmapinediglimaaDoor
