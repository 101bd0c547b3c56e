/-
  The canary of the laws: it says true. The first of many tokens (few).
-/
import Derived.Test.YtadahlffdhgapaaDoorWrPrint
import Derived.Test.YtadahlffdhgapaaDoorWrElem3
namespace Go.Proofs.YtadahlffdhgapaaDoor
set_option linter.unusedVariables false
set_option linter.unusedSimpArgs false
open Go.RowKit Go.MapKept
def live1 : List Tk := elemL [97] [] []
def live2 : List Tk := elemL [97] [([98], [60])] [⟨3, [], [], [120]⟩]
theorem print_1 (v : Value) (w : World) (h : TkS w v live1) : Calls Tryd.prog 6 #[v] w fun e w' => e = .returned (.tuple #[.string ⟨#[60, 97, 47, 62]⟩, .int .i64 0]) ∧ Below w.heap.size w w' := by
  have := print_good v live1 w h (by intro tk ht; simp [live1, elemL] at ht; rcases ht with rfl | rfl <;> exact ⟨by simp, by simp, by simp, by simp⟩) (by decide +kernel)
  rw [show printR live1 = [60, 97, 47, 62] by decide +kernel] at this
  exact this
theorem print_2 (v : Value) (w : World) (h : TkS w v live2) : Calls Tryd.prog 6 #[v] w fun e w' => e = .returned (.tuple #[.string ⟨#[60, 97, 32, 98, 61, 39, 38, 108, 116, 59, 39, 62, 120, 60, 47, 97, 62]⟩, .int .i64 0]) ∧ Below w.heap.size w w' := by
  have := print_good v live2 w h (by intro tk ht; simp [live2, elemL] at ht; rcases ht with rfl | rfl | rfl <;> exact ⟨by simp, by simp, by simp, by simp⟩) (by decide +kernel)
  rw [show printR live2 = [60, 97, 32, 98, 61, 39, 38, 108, 116, 59, 39, 62, 120, 60, 47, 97, 62] by decide +kernel] at this
  exact this
theorem live_any (w : World) : Calls Tryd.prog 8 #[] w fun e w' => e = .returned (.bool true) ∧ Below w.heap.size w w' := by
  have tok1 := Lib.hid True.intro
  go_enter Tryd.func8, Tryd.ntmps8
  go_wp2_with (first
    | (go_at_call 22
       have m0 := tok1.out
       refine (element_any [97] _ _ [] [] _ (at_nil _ 0 (Nat.zero_le _)) (by simp) (tk_nil _ 0 (Nat.zero_le _)) (by simp) (by simp)).mono ?_
       rintro e w1 ⟨v1, rfl, hT1, hb1⟩
       clear tok1 m0
       have tok2 := Lib.hid True.intro)
    | (go_at_call 6
       have m0 := tok2.out
       refine (print_1 _ _ hT1).mono ?_
       rintro e w2 ⟨rfl, hb2⟩
       clear tok2 m0
       have tok3 := Lib.hid True.intro)
    | (go_at_call 22
       have m0 := tok3.out
       refine (element_any [97] _ _ [([98], [60])] [⟨3, [], [], [120]⟩] _ (at_one _ w2.heap.size (by simp <;> omega) 1 (by decide) (by decide) [98] [60] (by simp) (by simp)) (by simp)
         (tk_one _ (w2.heap.size + 1) (by simp <;> omega) 1 (by decide) (by decide) 3 [] [120] _ [] (by simp) (by simp) (by simp) (by simp) (at_nil _ 0 (Nat.zero_le _))) (by simp) (by simp)).mono ?_
       rintro e w3 ⟨v3, rfl, hT3, hb3⟩
       clear tok3 m0
       have tok4 := Lib.hid True.intro)
    | (go_at_call 6
       have m0 := tok4.out
       refine (print_2 _ _ hT3).mono ?_
       rintro e w4 ⟨rfl, hb4⟩
       clear tok4 m0))
  go_ret
  have H := belowT hb1 hb2
  have hs := H.size
  exact ⟨rfl, belowT (belowT ((H.alloc hs _).alloc (by simp; omega) _) hb3) hb4⟩
theorem few_any (v : Value) (tks : List Tk) (w : World) (hT : TkS w v tks) : Calls Tryd.prog 5 #[v] w fun e w' => ∃ v', e = .returned v' ∧ TkS w v' (tks.take 70) ∧ w' = w := by
  obtain ⟨ptr, cap, rfl, hcap, hcapm, htk⟩ := hT
  obtain ⟨i0, hi, hz0, hz1, hz2⟩ := info_parts infoT
  by_cases h70 : 70 < tks.length
  · obtain ⟨b, o, rfl, hb, hc⟩ := htk (by omega)
    have hmx : (tks.length : Int) ≤ 9223372036854775807 := by unfold maxLen at hcapm; omega
    go_enter Tryd.func5, Tryd.ntmps5
    go_wp2
    go_ret
    refine ⟨_, rfl, ⟨some ⟨b, o, none⟩, cap, ?_, ?_, hcapm, fun _ => ⟨b, o, rfl, hb, fun i hi => ?_⟩⟩, rfl⟩
    · rw [List.length_take, show min 70 tks.length = 70 by omega]; rfl
    · rw [List.length_take]; omega
    · rw [List.length_take] at hi
      rw [List.getElem_take]
      exact hc i (by omega)
  · have e : tks.take 70 = tks := List.take_of_length_le (by omega)
    rw [e]
    go_enter Tryd.func5, Tryd.ntmps5
    go_wp2
    go_ret
    exact ⟨_, rfl, ⟨ptr, cap, rfl, hcap, hcapm, htk⟩, rfl⟩
end Go.Proofs.YtadahlffdhgapaaDoor
