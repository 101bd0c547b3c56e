/-
  Characters that may be in XML, by the reference (heliographref02.Chars), and its texts that fit (heliographref04.small). Conditions: the reach; the library's tables are as they were laid.
-/
import Derived.Test.YtadahlffdhgapaaDoorChEq
import Derived.Test.YtadahlffdhgapaaDoorShelf2
import Derived.Laws.RangeAny
namespace Go.Proofs.YtadahlffdhgapaaDoor
set_option linter.unusedVariables false
set_option linter.unusedSimpArgs false
open Go.RowKit
def U8T (w : World) : Prop := Lib.Utf8Tabs 0 1 w
theorem U8T.below {w w' : World} (h : U8T w) (hb : Below w.heap.size w w') : U8T w' := by
  obtain ⟨h1, h2⟩ := h
  have c1 : ∀ c, c < 256 → w'.cell? ⟨0, c, none⟩ = _ := fun c hc => (hb.cell (p := ⟨0, c, none⟩) (by
    have := h1 c hc
    rcases Nat.lt_or_ge 0 w.heap.size with h' | h'
    · exact h'
    · simp [World.cell?, Array.getElem?_eq_none h'] at this)).trans (h1 c hc)
  have lt4 : 1 < w.heap.size := by
    have := (h2 0 (by omega)).1
    rcases Nat.lt_or_ge 1 w.heap.size with h' | h'
    · exact h'
    · simp [World.cell?, Array.getElem?_eq_none h'] at this
  exact ⟨c1, fun i hi => ⟨(hb.cell (p := ⟨1, 2 * i, none⟩) lt4).trans (h2 i hi).1, (hb.cell (p := ⟨1, 2 * i + 1, none⟩) lt4).trans (h2 i hi).2⟩⟩
theorem valid_any (s : List UInt8) (w : World) (hs : s.length ≤ 140737488351232) (hU : U8T w) :
    Calls Tryd.prog 49 #[.string ⟨s.toArray⟩] w fun e w' => e = .returned (.bool (Lib.validD s)) ∧ Below w.heap.size w w' := by
  have := Any.utf8_ValidString Tryd.laysValid ⟨s.toArray⟩ w (by show s.toArray.size ≤ _; simp; omega) hU
  exact this
theorem okV_true {c : Nat} (h : (c : Int) ≠ 65534 ∧ (c : Int) ≠ 65535 ∧ (32 ≤ (c : Int) ∨ (c : Int) = 9 ∨ (c : Int) = 10 ∨ (c : Int) = 13)) : okV c = true := by
  unfold okV; rw [decide_eq_true_eq]; omega
theorem okV_not {c : Nat} (h : ¬((c : Int) ≠ 65534 ∧ (c : Int) ≠ 65535 ∧ (32 ≤ (c : Int) ∨ (c : Int) = 9 ∨ (c : Int) = 10 ∨ (c : Int) = 13))) : okV c = false := by
  unfold okV; rw [decide_eq_false_iff_not]; omega
set_option maxHeartbeats 4000000 in
theorem refChars_any (s : List UInt8) (w : World) (hs : s.length ≤ 140737488351232) (hU : U8T w) :
    Calls Tryd.prog 42 #[.string ⟨s.toArray⟩] w fun e w' => e = .returned (.bool (charsP s)) ∧ Below w.heap.size w w' := by
  have hV := valid_any s w hs hU
  rw [chars_valid]
  replace hU := Lib.hid hU
  cases hv : Lib.validD s
  · rw [hv] at hV
    replace hv := Lib.hid hv
    replace hV := Lib.hid hV
    go_enter Tryd.func42, Tryd.ntmps42
    go_wp2_with (go_at_call 49; refine hV.out.mono ?_; rintro e w1 ⟨rfl, hb⟩)
    go_ret
    exact ⟨rfl, hb⟩
  · rw [hv] at hV
    replace hv := Lib.hid hv
    replace hV := Lib.hid hV
    rw [Bool.true_and]
    generalize hCV : charsV s s.length 0 = CV
    replace hCV := Lib.hid hCV
    go_enter Tryd.func42, Tryd.ntmps42
    go_wp2_with (go_at_call 49; refine hV.out.mono ?_; rintro e w1 ⟨rfl, hb1⟩; replace hb1 := Lib.hid hb1)
    go_loopw [4] (fun _ wr => ∃ (pos b : Nat), wr = w1.iter ⟨s.toArray⟩ pos ∧ Hid (charsV s b pos = CV) ∧ s.length ≤ pos + b) (fun _ w' => s.length - w'.iterPos w1.heap.size)
    case atStart => exact ⟨0, s.length, rfl, hCV, by omega⟩
    case round =>
      obtain ⟨pos, b, rfl, hc, hb⟩ := hrel
      replace hc := hc.out
      by_cases hp : pos < s.length
      · have hnx : ∀ ty, (Instr.next (.pointer (some ⟨w1.heap.size, 0, none⟩)) true ty).run Tryd.prog (w1.iter ⟨s.toArray⟩ pos) = _ := fun ty => run_next_any w1 ⟨s.toArray⟩ pos ty hp
        have hwd := width_pos ⟨s.toArray⟩ pos hp
        cases b with
        | zero => omega
        | succ b =>
          rw [charsV, if_pos hp] at hc
          revert hnx hwd hc
          generalize (Utf8.decode ⟨s.toArray⟩ pos).2 = d
          generalize (Utf8.decode ⟨s.toArray⟩ pos).1 = c
          intro hnx hwd hc
          by_cases hok : (c : Int) ≠ 65534 ∧ (c : Int) ≠ 65535 ∧ (32 ≤ (c : Int) ∨ (c : Int) = 9 ∨ (c : Int) = 10 ∨ (c : Int) = 13)
          · rw [okV_true hok, Bool.true_and] at hc
            replace hc := Lib.hid hc
            obtain ⟨q1, q2, q3⟩ := hok
            go_wp2
            all_goals first
              | (exfalso; simp at *; omega)
              | exact ⟨⟨pos + d, b, rfl, hc, by omega⟩, by simp; omega⟩
          · rw [okV_not hok, Bool.false_and] at hc
            subst hc
            go_wp2
            all_goals first
              | (go_ret; exact ⟨rfl, hb1.out.alloc hb1.out.size _⟩)
              | (exfalso; simp at *; omega)
      · have hnx : ∀ ty, (Instr.next (.pointer (some ⟨w1.heap.size, 0, none⟩)) true ty).run Tryd.prog (w1.iter ⟨s.toArray⟩ pos) = _ := fun ty => run_next_end w1 ⟨s.toArray⟩ pos ty hp
        rw [charsV_end s b pos hp] at hc
        subst hc
        go_wp2
        go_ret
        exact ⟨rfl, hb1.out.alloc hb1.out.size _⟩
theorem refSmall_any (s : List UInt8) (w : World) (hs : s.length ≤ 140737488351232) (hU : U8T w) :
    Calls Tryd.prog 36 #[.string ⟨s.toArray⟩] w fun e w' => e = .returned (.bool (fitsP s)) ∧ Below w.heap.size w w' := by
  by_cases h : s.length ≤ 512
  · have e1 : fitsP s = charsP s := by simp [fitsP, h]
    have hb : decide ((s.length : Int) ≤ 512) = true := by simp; omega
    rw [e1]
    replace hU := Lib.hid hU
    go_enter Tryd.func36, Tryd.ntmps36
    go_wp2_with (go_at_call 42; refine (refChars_any s _ hs hU.out).mono ?_; rintro e w1 ⟨rfl, hb1⟩)
    go_ret
    exact ⟨rfl, hb1⟩
  · have e1 : fitsP s = false := by simp [fitsP, h]
    have hb : decide ((s.length : Int) ≤ 512) = false := by simp; omega
    rw [e1]
    replace hU := Lib.hid hU
    go_enter Tryd.func36, Tryd.ntmps36
    go_wp2
    go_ret
    exact ⟨rfl, Below.refl _ _⟩
end Go.Proofs.YtadahlffdhgapaaDoor
