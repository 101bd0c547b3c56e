/-
  The laws' own helpers: few, in, live; the references' Same of edges and of names, has. Condition: at most 1000 edges.
-/
import Derived.Test.YtgodmppmiamhaaaCoRem
namespace Go.Proofs.Ytgodmppmiamhaaa
set_option linter.unusedVariables false
set_option linter.unusedSimpArgs false
open Go.RowKit Go.MapKept Go.Shelf
theorem few_any (v : Value) (E : Ats) (w : World) (hA : AtS w v E) :
    Calls Try.prog 14 #[v] w fun e w' => ∃ sv, e = .returned sv ∧ AtS w sv (E.take 66) ∧ w' = w := by
  obtain ⟨ptr, cap, rfl, hc1, hc2, hat⟩ := hA
  have hm : (E.length : Int) ≤ 9223372036854775807 := by unfold maxLen at hc2; omega
  by_cases h : 66 < E.length
  · have hi : (66 : Int) < (E.length : Int) := by omega
    obtain ⟨b, o, rfl, hb, hcc⟩ := hat (by omega)
    have h66 : (E.take 66).length = 66 := by rw [List.length_take]; omega
    have hfin : AtS w (.slice (some ⟨b, o, none⟩) 66 cap) (E.take 66) := by
      rw [show (Value.slice (some ⟨b, o, none⟩) 66 cap) = .slice (some ⟨b, o, none⟩) (E.take 66).length cap by rw [h66]]
      refine ⟨_, cap, rfl, by omega, hc2, fun _ => ⟨b, o, rfl, hb, fun i hi => ?_⟩⟩
      rw [List.getElem_take]
      exact hcc i (by omega)
    have hcap : 66 ≤ cap := by omega
    have hcapi : (66 : Int) ≤ (cap : Int) := by omega
    replace hfin := Lib.hid hfin
    clear hat hcc
    go_enter Try.func14, Try.ntmps14
    go_wp2
    go_ret
    exact ⟨_, rfl, hfin.out, rfl⟩
  · have hi : ¬ (66 : Int) < (E.length : Int) := by omega
    have hfin : AtS w (.slice ptr E.length cap) (E.take 66) := by
      rw [List.take_of_length_le (by omega)]
      exact ⟨ptr, cap, rfl, hc1, hc2, hat⟩
    replace hfin := Lib.hid hfin
    clear hat
    go_enter Try.func14, Try.ntmps14
    go_wp2
    go_ret
    exact ⟨_, rfl, hfin.out, rfl⟩
def La : Txt := [97]
def Lb : Txt := [98]
set_option maxHeartbeats 1000000 in
theorem live_any (w : World) : Calls Try.prog 13 #[] w fun e w' => e = .returned (.bool true) ∧ Below w.heap.size w w' := by
  have e1 : addE [] La Lb = ([(La, Lb)], 0) := by kernel_rfl
  have e2 : addE [(La, Lb)] Lb La = ([], 9) := by kernel_rfl
  have e3 : parR [(La, Lb)] La = some Lb := by kernel_rfl
  have e4 : rightE [(La, Lb)] = true := by kernel_rfl
  have e5 : upsE [(La, Lb)] La = [Lb] := by kernel_rfl
  have h1 := Lib.hid (add_any _ [] La Lb w (sN w) (by simp))
  rw [e1] at h1
  have h2 := Lib.hid (fun (v : Value) W1 (hA : AtS W1 v [(La, Lb)]) => add_any v [(La, Lb)] Lb La W1 hA (by simp))
  rw [e2] at h2
  have h3 := Lib.hid (fun (v : Value) W1 (hA : AtS W1 v [(La, Lb)]) => coParent_any v [(La, Lb)] La W1 hA (by simp))
  rw [e3] at h3
  have h4 := Lib.hid (fun (v : Value) W1 (hA : AtS W1 v [(La, Lb)]) => coRight_any v [(La, Lb)] W1 hA (by simp))
  rw [e4] at h4
  have h5 := Lib.hid (fun (v : Value) W1 (hA : AtS W1 v [(La, Lb)]) => above_any v [(La, Lb)] La W1 hA (by simp))
  rw [e5] at h5
  clear e1 e2 e3 e4 e5
  simp only [La, Lb] at h1 h2 h3 h4 h5
  go_enter Try.func13, Try.ntmps13
  go_wp2_with (first
    | (go_at_call 10; (with_reducible refine h1.out.mono ?_); rintro e w1 ⟨⟨sv1, rfl, hA1⟩, hb1⟩; obtain ⟨a1, c1, rfl⟩ : ∃ a c', sv1 = .slice a 1 c' := (by obtain ⟨a, c, h, -⟩ := hA1; exact ⟨a, c, h⟩); replace hA1 := Lib.hid hA1; replace hb1 := Lib.hid hb1)
    | (go_at_call 10; (with_reducible refine (h2.out _ _ hA1.out).mono ?_); rintro e w2 ⟨⟨sv2, rfl, hA2⟩, hb2⟩; obtain ⟨a2, c2, rfl⟩ : ∃ a c', sv2 = .slice a 0 c' := (by obtain ⟨a, c, h, -⟩ := hA2; exact ⟨a, c, h⟩); replace hA1 := Lib.hid (hA1.out.below hb2); replace hb2 := Lib.hid (belowT hb1.out hb2))
    | (go_at_call 12; refine (h3.out _ _ hA1.out).mono ?_; rintro e w3 ⟨rfl, hb3⟩; replace hA1 := Lib.hid (hA1.out.below hb3); replace hb3 := Lib.hid (belowT hb2.out hb3))
    | (go_at_call 11; refine (h4.out _ _ hA1.out).mono ?_; rintro e w4 ⟨rfl, hb4⟩; replace hA1 := Lib.hid (hA1.out.below hb4); replace hb4 := Lib.hid (belowT hb3.out hb4))
    | (go_at_call 15; refine (h5.out _ _ hA1.out).mono ?_; rintro e w5 ⟨sv5, rfl, hS5, hb5⟩; obtain ⟨a5, c5, rfl⟩ : ∃ a c', sv5 = .slice a 1 c' := (by obtain ⟨a, c, h, -⟩ := hS5; exact ⟨a, c, h⟩); replace hb5 := Lib.hid (belowT hb4.out hb5)))
  go_ret
  exact ⟨rfl, hb5.out⟩
end Go.Proofs.Ytgodmppmiamhaaa
