/-
  node.Name, walked: its literal, strings.IndexFunc. Condition: the text shorter than the reach.
-/
import Derived.Test.YtoijpjmkjhoiaaaNdPure
import Derived.Laws.RangeAny
namespace Go.Proofs.Ytoijpjmkjhoiaaa
set_option linter.unusedVariables false
set_option linter.unusedSimpArgs false
open Go.RowKit
theorem nodeFn_any (c : Nat) (w : World) :
    Calls Try.prog 55 #[.int .i32 c] w fun e w' => e = .returned (.bool (!okCh c)) ∧ w = w' := by
  go_enter Try.func55, Try.ntmps55
  go_wp2
  all_goals
    go_ret
    refine ⟨ret_bool ?_, rfl⟩
    rw [Bool.eq_iff_iff]
    simp [okCh] at *
    try omega
set_option maxHeartbeats 1000000 in
theorem indexFn_any (s : List UInt8) (w : World) (hs : s.length ≤ 140737488351232) :
    Calls Try.prog 77 #[.string ⟨s.toArray⟩, .func (.func 55) #[] #[], .bool true] w fun e w' => ∃ i : Int, e = .returned (.int .i64 i) ∧ decide (i < 0) = s.all okN ∧ Below w.heap.size w w' := by
  go_enter Try.func77, Try.ntmps77
  go_wp2
  go_loopw [7, 8] (fun _ _ wr => ∃ pos : Nat, pos ≤ s.length ∧ wr = w.iter ⟨s.toArray⟩ pos ∧ Hid ((s.take pos).all okN = true)) (fun _ _ w' => s.length - w'.iterPos w.heap.size)
  case atStart => exact ⟨0, by omega, rfl, Lib.hid rfl⟩
  case round =>
    obtain ⟨pos, hle, rfl, hA⟩ := hrel
    by_cases hp : pos < s.length
    · have hnx : ∀ ty, (Instr.next (.pointer (some ⟨w.heap.size, 0, none⟩)) true ty).run Try.prog (w.iter ⟨s.toArray⟩ pos) = _ := fun ty => run_next_any w ⟨s.toArray⟩ pos ty hp
      obtain ⟨h1, h2⟩ := dec_ok hp
      have hT := all_take hp
      have hN := fun h => all_not hp h
      rw [hA.out, Bool.true_and] at hT
      generalize okN s[pos] = b at h1 h2 hT hN
      revert hnx h1 h2
      generalize (Utf8.decode ⟨s.toArray⟩ pos).2 = d
      generalize (Utf8.decode ⟨s.toArray⟩ pos).1 = c
      intro hnx h1 h2
      have hF : ∀ W, Calls Try.prog 55 #[.int .i32 c] W fun e w' => e = .returned (.bool (!b)) ∧ W = w' := fun W => by rw [← h1]; exact nodeFn_any c W
      replace hF := Lib.hid hF
      replace hT := Lib.hid hT
      replace hN := Lib.hid hN
      replace h1 := Lib.hid h1
      cases b
      · have hN' := Lib.hid (hN.out rfl)
        go_wp2_with (go_at_call 55; refine (hF.out _).mono ?_; rintro e w1 ⟨rfl, rfl⟩)
        go_ret
        exact ⟨_, rfl, by rw [hN'.out]; simp; try omega, (Below.refl _ _).alloc (Nat.le_refl _) _⟩
      · obtain rfl := h2 rfl
        go_wp2_with (go_at_call 55; refine (hF.out _).mono ?_; rintro e w1 ⟨rfl, rfl⟩)
        exact ⟨⟨pos + 1, by omega, rfl, hT⟩, by simp; omega⟩
    · obtain rfl : pos = s.length := by omega
      have hnx : ∀ ty, (Instr.next (.pointer (some ⟨w.heap.size, 0, none⟩)) true ty).run Try.prog (w.iter ⟨s.toArray⟩ s.length) = _ := fun ty => run_next_end w ⟨s.toArray⟩ s.length ty hp
      have hA' := hA.out
      rw [List.take_of_length_le (Nat.le_refl _)] at hA'
      replace hA' := Lib.hid hA'
      go_wp2
      go_ret
      exact ⟨_, rfl, by rw [hA'.out]; simp, (Below.refl _ _).alloc (Nat.le_refl _) _⟩
theorem indexF_any (s : List UInt8) (w : World) (hs : s.length ≤ 140737488351232) :
    Calls Try.prog 54 #[.string ⟨s.toArray⟩, .func (.func 55) #[] #[]] w fun e w' => ∃ i : Int, e = .returned (.int .i64 i) ∧ decide (i < 0) = s.all okN ∧ Below w.heap.size w w' := by
  go_enter Try.func54, Try.ntmps54
  go_wp2_with (go_at_call 77; refine (indexFn_any s _ hs).mono ?_; rintro e w1 ⟨i, rfl, hi, hb⟩)
  go_ret
  exact ⟨i, rfl, hi, hb⟩
theorem nodeName_any (s : List UInt8) (w : World) (hs : s.length ≤ 140737488351232) :
    Calls Try.prog 25 #[.string ⟨s.toArray⟩] w fun e w' => e = .returned (.bool (nodeP s)) ∧ Below w.heap.size w w' := by
  by_cases h0 : s = []
  · subst h0
    go_enter Try.func25, Try.ntmps25
    go_wp2
    go_ret
    exact ⟨rfl, Below.refl _ _⟩
  · have e0 : (s == []) = false := by simpa using h0
    by_cases h24 : s.length ≤ 24
    · have e1 : nodeP s = s.all okN := by simp [nodeP, h0, h24]
      have hb : decide ((s.length : Int) ≤ 24) = true := by simp; omega
      rw [e1]
      go_enter Try.func25, Try.ntmps25
      go_wp2_with (go_at_call 54; refine (indexF_any s _ hs).mono ?_; rintro e w1 ⟨i, rfl, hi, hb'⟩)
      all_goals
        go_ret
        exact ⟨ret_bool (by rw [← hi]), by assumption⟩
    · have e1 : nodeP s = false := by simp [nodeP, h24]
      have hb : decide ((s.length : Int) ≤ 24) = false := by simp; omega
      rw [e1]
      go_enter Try.func25, Try.ntmps25
      go_wp2
      go_ret
      exact ⟨rfl, Below.refl _ _⟩
end Go.Proofs.Ytoijpjmkjhoiaaa
