/-
  The walk of StanzaTypes. (Printed by wip/tools/gentypes.)
-/
import Derived.Test.YtpgojinfhfipeaaStLive
import Derived.Test.YtpgojinfhfipeaaOpenSt
namespace Go.Proofs.Ytpgojinfhfipeaa
set_option linter.unusedVariables false
set_option linter.unusedSimpArgs false
open Go.RowKit Go.MapKept
theorem known_not {k : Nat} {t id : List UInt8} (h : typedB k t = false ∨ (k = 1 ∧ id = [])) : rightZ ⟨k, t, [], [], id, []⟩ = false := by
  unfold rightZ
  rcases h with h | ⟨rfl, rfl⟩
  · simp [h]
  · simp
set_option maxHeartbeats 4000000 in
theorem types_of (k : Nat) (t id : List UInt8) (w : World) (R : Bool) (hK : (typedB k t = false ∨ (k = 1 ∧ id = [])) → R = false)
    (hE : Hid (∀ W, Calls Try.prog 8 #[.agg #[.int .u8 k, .string ⟨t.toArray⟩, .string ⟨#[]⟩, .string ⟨#[]⟩, .string ⟨id.toArray⟩, .slice none 0 0]] W fun e w' => ∃ va c, e = .returned (.tuple #[.slice va (if R then 2 else 0) c, .int .i64 (errE R)]) ∧ Below W.heap.size W w'))
    (hR : Hid (∀ W, Calls Try.prog 10 #[.agg #[.int .u8 k, .string ⟨t.toArray⟩, .string ⟨#[]⟩, .string ⟨#[]⟩, .string ⟨id.toArray⟩, .slice none 0 0]] W fun e w' => e = .returned (.bool R) ∧ Below W.heap.size W w')) :
    Calls Try.prog 3 #[.int .u8 k, .string ⟨t.toArray⟩, .string ⟨id.toArray⟩] w fun e w' => e = .returned (.bool true) ∧ Below w.heap.size w w' := by
  by_cases h1 : k = 1
  · subst h1
    simp only [show ((1 : Nat) : Int) = 1 from rfl, show ((2 : Nat) : Int) = 2 from rfl, show ((3 : Nat) : Int) = 3 from rfl] at hE hR ⊢
    by_cases g0 : t = [101, 114, 114, 111, 114]
    · subst g0
      by_cases gi : id = []
      · subst gi
        obtain rfl : R = false := hK (by exact .inr ⟨rfl, rfl⟩)
        clear hK
        simp only [Bool.false_eq_true, if_false, show errE false = 3 from rfl] at hE
        go_enter Try.func3, Try.ntmps3
        go_wp2_with (first
          | (go_at_call 8; refine (hE.out _).mono ?_; rintro e w1 ⟨va, vc, rfl, hb1⟩; obtain ⟨c1, -⟩ := bat hb1 w.heap.size (by simp); have hl1 : w.heap.size < w1.heap.size := Nat.lt_of_lt_of_le (by simp) hb1.size; have hB1 := Lib.hid ((below1 w _).trans (hb1.mono (by simp))); clear hb1)
          | (go_at_call 9; refine (live6_any _).mono ?_; rintro e w2 ⟨rfl, hb2⟩; obtain ⟨c2, -⟩ := bat hb2 w.heap.size hl1; have hB2 := Lib.hid (belowT hB1.out hb2); clear hb2)
          | (go_at_call 10; refine (hR.out _).mono ?_; rintro e w3 ⟨rfl, hb3⟩; have hB3 := Lib.hid (belowT hB2.out hb3); clear hb3))
        all_goals go_ret
        all_goals exact ⟨rfl, hB3.out⟩
      · have ei : (id == []) = false := by simpa using gi
        clear hK
        cases R
        · simp only [Bool.false_eq_true, if_false, show errE false = 3 from rfl] at hE
          go_enter Try.func3, Try.ntmps3
          go_wp2_with (first
            | (go_at_call 8; refine (hE.out _).mono ?_; rintro e w1 ⟨va, vc, rfl, hb1⟩; obtain ⟨c1, -⟩ := bat hb1 w.heap.size (by simp); have hl1 : w.heap.size < w1.heap.size := Nat.lt_of_lt_of_le (by simp) hb1.size; have hB1 := Lib.hid ((below1 w _).trans (hb1.mono (by simp))); clear hb1)
            | (go_at_call 9; refine (live6_any _).mono ?_; rintro e w2 ⟨rfl, hb2⟩; obtain ⟨c2, -⟩ := bat hb2 w.heap.size hl1; have hB2 := Lib.hid (belowT hB1.out hb2); clear hb2)
            | (go_at_call 10; refine (hR.out _).mono ?_; rintro e w3 ⟨rfl, hb3⟩; have hB3 := Lib.hid (belowT hB2.out hb3); clear hb3))
          all_goals go_ret
          all_goals exact ⟨rfl, hB3.out⟩
        · simp only [if_true, show errE true = 0 from rfl] at hE
          go_enter Try.func3, Try.ntmps3
          go_wp2_with (first
            | (go_at_call 8; refine (hE.out _).mono ?_; rintro e w1 ⟨va, vc, rfl, hb1⟩; obtain ⟨c1, -⟩ := bat hb1 w.heap.size (by simp); have hl1 : w.heap.size < w1.heap.size := Nat.lt_of_lt_of_le (by simp) hb1.size; have hB1 := Lib.hid ((below1 w _).trans (hb1.mono (by simp))); clear hb1)
            | (go_at_call 9; refine (live6_any _).mono ?_; rintro e w2 ⟨rfl, hb2⟩; obtain ⟨c2, -⟩ := bat hb2 w.heap.size hl1; have hB2 := Lib.hid (belowT hB1.out hb2); clear hb2)
            | (go_at_call 10; refine (hR.out _).mono ?_; rintro e w3 ⟨rfl, hb3⟩; have hB3 := Lib.hid (belowT hB2.out hb3); clear hb3))
          all_goals go_ret
          all_goals exact ⟨rfl, hB3.out⟩
    have e0 : (t == [101, 114, 114, 111, 114]) = false := by simpa using g0
    by_cases g1 : t = [103, 101, 116]
    · subst g1
      by_cases gi : id = []
      · subst gi
        obtain rfl : R = false := hK (by exact .inr ⟨rfl, rfl⟩)
        clear hK
        simp only [Bool.false_eq_true, if_false, show errE false = 3 from rfl] at hE
        go_enter Try.func3, Try.ntmps3
        go_wp2_with (first
          | (go_at_call 8; refine (hE.out _).mono ?_; rintro e w1 ⟨va, vc, rfl, hb1⟩; obtain ⟨c1, -⟩ := bat hb1 w.heap.size (by simp); have hl1 : w.heap.size < w1.heap.size := Nat.lt_of_lt_of_le (by simp) hb1.size; have hB1 := Lib.hid ((below1 w _).trans (hb1.mono (by simp))); clear hb1)
          | (go_at_call 9; refine (live6_any _).mono ?_; rintro e w2 ⟨rfl, hb2⟩; obtain ⟨c2, -⟩ := bat hb2 w.heap.size hl1; have hB2 := Lib.hid (belowT hB1.out hb2); clear hb2)
          | (go_at_call 10; refine (hR.out _).mono ?_; rintro e w3 ⟨rfl, hb3⟩; have hB3 := Lib.hid (belowT hB2.out hb3); clear hb3))
        all_goals go_ret
        all_goals exact ⟨rfl, hB3.out⟩
      · have ei : (id == []) = false := by simpa using gi
        clear hK
        cases R
        · simp only [Bool.false_eq_true, if_false, show errE false = 3 from rfl] at hE
          go_enter Try.func3, Try.ntmps3
          go_wp2_with (first
            | (go_at_call 8; refine (hE.out _).mono ?_; rintro e w1 ⟨va, vc, rfl, hb1⟩; obtain ⟨c1, -⟩ := bat hb1 w.heap.size (by simp); have hl1 : w.heap.size < w1.heap.size := Nat.lt_of_lt_of_le (by simp) hb1.size; have hB1 := Lib.hid ((below1 w _).trans (hb1.mono (by simp))); clear hb1)
            | (go_at_call 9; refine (live6_any _).mono ?_; rintro e w2 ⟨rfl, hb2⟩; obtain ⟨c2, -⟩ := bat hb2 w.heap.size hl1; have hB2 := Lib.hid (belowT hB1.out hb2); clear hb2)
            | (go_at_call 10; refine (hR.out _).mono ?_; rintro e w3 ⟨rfl, hb3⟩; have hB3 := Lib.hid (belowT hB2.out hb3); clear hb3))
          all_goals go_ret
          all_goals exact ⟨rfl, hB3.out⟩
        · simp only [if_true, show errE true = 0 from rfl] at hE
          go_enter Try.func3, Try.ntmps3
          go_wp2_with (first
            | (go_at_call 8; refine (hE.out _).mono ?_; rintro e w1 ⟨va, vc, rfl, hb1⟩; obtain ⟨c1, -⟩ := bat hb1 w.heap.size (by simp); have hl1 : w.heap.size < w1.heap.size := Nat.lt_of_lt_of_le (by simp) hb1.size; have hB1 := Lib.hid ((below1 w _).trans (hb1.mono (by simp))); clear hb1)
            | (go_at_call 9; refine (live6_any _).mono ?_; rintro e w2 ⟨rfl, hb2⟩; obtain ⟨c2, -⟩ := bat hb2 w.heap.size hl1; have hB2 := Lib.hid (belowT hB1.out hb2); clear hb2)
            | (go_at_call 10; refine (hR.out _).mono ?_; rintro e w3 ⟨rfl, hb3⟩; have hB3 := Lib.hid (belowT hB2.out hb3); clear hb3))
          all_goals go_ret
          all_goals exact ⟨rfl, hB3.out⟩
    have e1 : (t == [103, 101, 116]) = false := by simpa using g1
    by_cases g2 : t = [115, 101, 116]
    · subst g2
      by_cases gi : id = []
      · subst gi
        obtain rfl : R = false := hK (by exact .inr ⟨rfl, rfl⟩)
        clear hK
        simp only [Bool.false_eq_true, if_false, show errE false = 3 from rfl] at hE
        go_enter Try.func3, Try.ntmps3
        go_wp2_with (first
          | (go_at_call 8; refine (hE.out _).mono ?_; rintro e w1 ⟨va, vc, rfl, hb1⟩; obtain ⟨c1, -⟩ := bat hb1 w.heap.size (by simp); have hl1 : w.heap.size < w1.heap.size := Nat.lt_of_lt_of_le (by simp) hb1.size; have hB1 := Lib.hid ((below1 w _).trans (hb1.mono (by simp))); clear hb1)
          | (go_at_call 9; refine (live6_any _).mono ?_; rintro e w2 ⟨rfl, hb2⟩; obtain ⟨c2, -⟩ := bat hb2 w.heap.size hl1; have hB2 := Lib.hid (belowT hB1.out hb2); clear hb2)
          | (go_at_call 10; refine (hR.out _).mono ?_; rintro e w3 ⟨rfl, hb3⟩; have hB3 := Lib.hid (belowT hB2.out hb3); clear hb3))
        all_goals go_ret
        all_goals exact ⟨rfl, hB3.out⟩
      · have ei : (id == []) = false := by simpa using gi
        clear hK
        cases R
        · simp only [Bool.false_eq_true, if_false, show errE false = 3 from rfl] at hE
          go_enter Try.func3, Try.ntmps3
          go_wp2_with (first
            | (go_at_call 8; refine (hE.out _).mono ?_; rintro e w1 ⟨va, vc, rfl, hb1⟩; obtain ⟨c1, -⟩ := bat hb1 w.heap.size (by simp); have hl1 : w.heap.size < w1.heap.size := Nat.lt_of_lt_of_le (by simp) hb1.size; have hB1 := Lib.hid ((below1 w _).trans (hb1.mono (by simp))); clear hb1)
            | (go_at_call 9; refine (live6_any _).mono ?_; rintro e w2 ⟨rfl, hb2⟩; obtain ⟨c2, -⟩ := bat hb2 w.heap.size hl1; have hB2 := Lib.hid (belowT hB1.out hb2); clear hb2)
            | (go_at_call 10; refine (hR.out _).mono ?_; rintro e w3 ⟨rfl, hb3⟩; have hB3 := Lib.hid (belowT hB2.out hb3); clear hb3))
          all_goals go_ret
          all_goals exact ⟨rfl, hB3.out⟩
        · simp only [if_true, show errE true = 0 from rfl] at hE
          go_enter Try.func3, Try.ntmps3
          go_wp2_with (first
            | (go_at_call 8; refine (hE.out _).mono ?_; rintro e w1 ⟨va, vc, rfl, hb1⟩; obtain ⟨c1, -⟩ := bat hb1 w.heap.size (by simp); have hl1 : w.heap.size < w1.heap.size := Nat.lt_of_lt_of_le (by simp) hb1.size; have hB1 := Lib.hid ((below1 w _).trans (hb1.mono (by simp))); clear hb1)
            | (go_at_call 9; refine (live6_any _).mono ?_; rintro e w2 ⟨rfl, hb2⟩; obtain ⟨c2, -⟩ := bat hb2 w.heap.size hl1; have hB2 := Lib.hid (belowT hB1.out hb2); clear hb2)
            | (go_at_call 10; refine (hR.out _).mono ?_; rintro e w3 ⟨rfl, hb3⟩; have hB3 := Lib.hid (belowT hB2.out hb3); clear hb3))
          all_goals go_ret
          all_goals exact ⟨rfl, hB3.out⟩
    have e2 : (t == [115, 101, 116]) = false := by simpa using g2
    by_cases g3 : t = [114, 101, 115, 117, 108, 116]
    · subst g3
      by_cases gi : id = []
      · subst gi
        obtain rfl : R = false := hK (by exact .inr ⟨rfl, rfl⟩)
        clear hK
        simp only [Bool.false_eq_true, if_false, show errE false = 3 from rfl] at hE
        go_enter Try.func3, Try.ntmps3
        go_wp2_with (first
          | (go_at_call 8; refine (hE.out _).mono ?_; rintro e w1 ⟨va, vc, rfl, hb1⟩; obtain ⟨c1, -⟩ := bat hb1 w.heap.size (by simp); have hl1 : w.heap.size < w1.heap.size := Nat.lt_of_lt_of_le (by simp) hb1.size; have hB1 := Lib.hid ((below1 w _).trans (hb1.mono (by simp))); clear hb1)
          | (go_at_call 9; refine (live6_any _).mono ?_; rintro e w2 ⟨rfl, hb2⟩; obtain ⟨c2, -⟩ := bat hb2 w.heap.size hl1; have hB2 := Lib.hid (belowT hB1.out hb2); clear hb2)
          | (go_at_call 10; refine (hR.out _).mono ?_; rintro e w3 ⟨rfl, hb3⟩; have hB3 := Lib.hid (belowT hB2.out hb3); clear hb3))
        all_goals go_ret
        all_goals exact ⟨rfl, hB3.out⟩
      · have ei : (id == []) = false := by simpa using gi
        clear hK
        cases R
        · simp only [Bool.false_eq_true, if_false, show errE false = 3 from rfl] at hE
          go_enter Try.func3, Try.ntmps3
          go_wp2_with (first
            | (go_at_call 8; refine (hE.out _).mono ?_; rintro e w1 ⟨va, vc, rfl, hb1⟩; obtain ⟨c1, -⟩ := bat hb1 w.heap.size (by simp); have hl1 : w.heap.size < w1.heap.size := Nat.lt_of_lt_of_le (by simp) hb1.size; have hB1 := Lib.hid ((below1 w _).trans (hb1.mono (by simp))); clear hb1)
            | (go_at_call 9; refine (live6_any _).mono ?_; rintro e w2 ⟨rfl, hb2⟩; obtain ⟨c2, -⟩ := bat hb2 w.heap.size hl1; have hB2 := Lib.hid (belowT hB1.out hb2); clear hb2)
            | (go_at_call 10; refine (hR.out _).mono ?_; rintro e w3 ⟨rfl, hb3⟩; have hB3 := Lib.hid (belowT hB2.out hb3); clear hb3))
          all_goals go_ret
          all_goals exact ⟨rfl, hB3.out⟩
        · simp only [if_true, show errE true = 0 from rfl] at hE
          go_enter Try.func3, Try.ntmps3
          go_wp2_with (first
            | (go_at_call 8; refine (hE.out _).mono ?_; rintro e w1 ⟨va, vc, rfl, hb1⟩; obtain ⟨c1, -⟩ := bat hb1 w.heap.size (by simp); have hl1 : w.heap.size < w1.heap.size := Nat.lt_of_lt_of_le (by simp) hb1.size; have hB1 := Lib.hid ((below1 w _).trans (hb1.mono (by simp))); clear hb1)
            | (go_at_call 9; refine (live6_any _).mono ?_; rintro e w2 ⟨rfl, hb2⟩; obtain ⟨c2, -⟩ := bat hb2 w.heap.size hl1; have hB2 := Lib.hid (belowT hB1.out hb2); clear hb2)
            | (go_at_call 10; refine (hR.out _).mono ?_; rintro e w3 ⟨rfl, hb3⟩; have hB3 := Lib.hid (belowT hB2.out hb3); clear hb3))
          all_goals go_ret
          all_goals exact ⟨rfl, hB3.out⟩
    have e3 : (t == [114, 101, 115, 117, 108, 116]) = false := by simpa using g3
    by_cases gi : id = []
    · subst gi
      obtain rfl : R = false := hK (by left; simp [typedB, resL, errL, *])
      clear hK
      simp only [Bool.false_eq_true, if_false, show errE false = 3 from rfl] at hE
      go_enter Try.func3, Try.ntmps3
      go_wp2_with (first
        | (go_at_call 8; refine (hE.out _).mono ?_; rintro e w1 ⟨va, vc, rfl, hb1⟩; obtain ⟨c1, -⟩ := bat hb1 w.heap.size (by simp); have hl1 : w.heap.size < w1.heap.size := Nat.lt_of_lt_of_le (by simp) hb1.size; have hB1 := Lib.hid ((below1 w _).trans (hb1.mono (by simp))); clear hb1)
        | (go_at_call 9; refine (live6_any _).mono ?_; rintro e w2 ⟨rfl, hb2⟩; obtain ⟨c2, -⟩ := bat hb2 w.heap.size hl1; have hB2 := Lib.hid (belowT hB1.out hb2); clear hb2)
        | (go_at_call 10; refine (hR.out _).mono ?_; rintro e w3 ⟨rfl, hb3⟩; have hB3 := Lib.hid (belowT hB2.out hb3); clear hb3))
      all_goals go_ret
      all_goals exact ⟨rfl, hB3.out⟩
    · have ei : (id == []) = false := by simpa using gi
      obtain rfl : R = false := hK (by left; simp [typedB, resL, errL, *])
      clear hK
      simp only [Bool.false_eq_true, if_false, show errE false = 3 from rfl] at hE
      go_enter Try.func3, Try.ntmps3
      go_wp2_with (first
        | (go_at_call 8; refine (hE.out _).mono ?_; rintro e w1 ⟨va, vc, rfl, hb1⟩; obtain ⟨c1, -⟩ := bat hb1 w.heap.size (by simp); have hl1 : w.heap.size < w1.heap.size := Nat.lt_of_lt_of_le (by simp) hb1.size; have hB1 := Lib.hid ((below1 w _).trans (hb1.mono (by simp))); clear hb1)
        | (go_at_call 9; refine (live6_any _).mono ?_; rintro e w2 ⟨rfl, hb2⟩; obtain ⟨c2, -⟩ := bat hb2 w.heap.size hl1; have hB2 := Lib.hid (belowT hB1.out hb2); clear hb2)
        | (go_at_call 10; refine (hR.out _).mono ?_; rintro e w3 ⟨rfl, hb3⟩; have hB3 := Lib.hid (belowT hB2.out hb3); clear hb3))
      all_goals go_ret
      all_goals exact ⟨rfl, hB3.out⟩
  by_cases h2 : k = 2
  · subst h2
    simp only [show ((1 : Nat) : Int) = 1 from rfl, show ((2 : Nat) : Int) = 2 from rfl, show ((3 : Nat) : Int) = 3 from rfl] at hE hR ⊢
    by_cases g0 : t = [101, 114, 114, 111, 114]
    · subst g0
      clear hK
      cases R
      · simp only [Bool.false_eq_true, if_false, show errE false = 3 from rfl] at hE
        go_enter Try.func3, Try.ntmps3
        go_wp2_with (first
          | (go_at_call 8; refine (hE.out _).mono ?_; rintro e w1 ⟨va, vc, rfl, hb1⟩; obtain ⟨c1, -⟩ := bat hb1 w.heap.size (by simp); have hl1 : w.heap.size < w1.heap.size := Nat.lt_of_lt_of_le (by simp) hb1.size; have hB1 := Lib.hid ((below1 w _).trans (hb1.mono (by simp))); clear hb1)
          | (go_at_call 9; refine (live6_any _).mono ?_; rintro e w2 ⟨rfl, hb2⟩; obtain ⟨c2, -⟩ := bat hb2 w.heap.size hl1; have hB2 := Lib.hid (belowT hB1.out hb2); clear hb2)
          | (go_at_call 10; refine (hR.out _).mono ?_; rintro e w3 ⟨rfl, hb3⟩; have hB3 := Lib.hid (belowT hB2.out hb3); clear hb3))
        all_goals go_ret
        all_goals exact ⟨rfl, hB3.out⟩
      · simp only [if_true, show errE true = 0 from rfl] at hE
        go_enter Try.func3, Try.ntmps3
        go_wp2_with (first
          | (go_at_call 8; refine (hE.out _).mono ?_; rintro e w1 ⟨va, vc, rfl, hb1⟩; obtain ⟨c1, -⟩ := bat hb1 w.heap.size (by simp); have hl1 : w.heap.size < w1.heap.size := Nat.lt_of_lt_of_le (by simp) hb1.size; have hB1 := Lib.hid ((below1 w _).trans (hb1.mono (by simp))); clear hb1)
          | (go_at_call 9; refine (live6_any _).mono ?_; rintro e w2 ⟨rfl, hb2⟩; obtain ⟨c2, -⟩ := bat hb2 w.heap.size hl1; have hB2 := Lib.hid (belowT hB1.out hb2); clear hb2)
          | (go_at_call 10; refine (hR.out _).mono ?_; rintro e w3 ⟨rfl, hb3⟩; have hB3 := Lib.hid (belowT hB2.out hb3); clear hb3))
        all_goals go_ret
        all_goals exact ⟨rfl, hB3.out⟩
    have e0 : (t == [101, 114, 114, 111, 114]) = false := by simpa using g0
    by_cases g1 : t = ([] : List UInt8)
    · subst g1
      clear hK
      cases R
      · simp only [Bool.false_eq_true, if_false, show errE false = 3 from rfl] at hE
        go_enter Try.func3, Try.ntmps3
        go_wp2_with (first
          | (go_at_call 8; refine (hE.out _).mono ?_; rintro e w1 ⟨va, vc, rfl, hb1⟩; obtain ⟨c1, -⟩ := bat hb1 w.heap.size (by simp); have hl1 : w.heap.size < w1.heap.size := Nat.lt_of_lt_of_le (by simp) hb1.size; have hB1 := Lib.hid ((below1 w _).trans (hb1.mono (by simp))); clear hb1)
          | (go_at_call 9; refine (live6_any _).mono ?_; rintro e w2 ⟨rfl, hb2⟩; obtain ⟨c2, -⟩ := bat hb2 w.heap.size hl1; have hB2 := Lib.hid (belowT hB1.out hb2); clear hb2)
          | (go_at_call 10; refine (hR.out _).mono ?_; rintro e w3 ⟨rfl, hb3⟩; have hB3 := Lib.hid (belowT hB2.out hb3); clear hb3))
        all_goals go_ret
        all_goals exact ⟨rfl, hB3.out⟩
      · simp only [if_true, show errE true = 0 from rfl] at hE
        go_enter Try.func3, Try.ntmps3
        go_wp2_with (first
          | (go_at_call 8; refine (hE.out _).mono ?_; rintro e w1 ⟨va, vc, rfl, hb1⟩; obtain ⟨c1, -⟩ := bat hb1 w.heap.size (by simp); have hl1 : w.heap.size < w1.heap.size := Nat.lt_of_lt_of_le (by simp) hb1.size; have hB1 := Lib.hid ((below1 w _).trans (hb1.mono (by simp))); clear hb1)
          | (go_at_call 9; refine (live6_any _).mono ?_; rintro e w2 ⟨rfl, hb2⟩; obtain ⟨c2, -⟩ := bat hb2 w.heap.size hl1; have hB2 := Lib.hid (belowT hB1.out hb2); clear hb2)
          | (go_at_call 10; refine (hR.out _).mono ?_; rintro e w3 ⟨rfl, hb3⟩; have hB3 := Lib.hid (belowT hB2.out hb3); clear hb3))
        all_goals go_ret
        all_goals exact ⟨rfl, hB3.out⟩
    have e1 : (t == []) = false := by simpa using g1
    by_cases g2 : t = [99, 104, 97, 116]
    · subst g2
      clear hK
      cases R
      · simp only [Bool.false_eq_true, if_false, show errE false = 3 from rfl] at hE
        go_enter Try.func3, Try.ntmps3
        go_wp2_with (first
          | (go_at_call 8; refine (hE.out _).mono ?_; rintro e w1 ⟨va, vc, rfl, hb1⟩; obtain ⟨c1, -⟩ := bat hb1 w.heap.size (by simp); have hl1 : w.heap.size < w1.heap.size := Nat.lt_of_lt_of_le (by simp) hb1.size; have hB1 := Lib.hid ((below1 w _).trans (hb1.mono (by simp))); clear hb1)
          | (go_at_call 9; refine (live6_any _).mono ?_; rintro e w2 ⟨rfl, hb2⟩; obtain ⟨c2, -⟩ := bat hb2 w.heap.size hl1; have hB2 := Lib.hid (belowT hB1.out hb2); clear hb2)
          | (go_at_call 10; refine (hR.out _).mono ?_; rintro e w3 ⟨rfl, hb3⟩; have hB3 := Lib.hid (belowT hB2.out hb3); clear hb3))
        all_goals go_ret
        all_goals exact ⟨rfl, hB3.out⟩
      · simp only [if_true, show errE true = 0 from rfl] at hE
        go_enter Try.func3, Try.ntmps3
        go_wp2_with (first
          | (go_at_call 8; refine (hE.out _).mono ?_; rintro e w1 ⟨va, vc, rfl, hb1⟩; obtain ⟨c1, -⟩ := bat hb1 w.heap.size (by simp); have hl1 : w.heap.size < w1.heap.size := Nat.lt_of_lt_of_le (by simp) hb1.size; have hB1 := Lib.hid ((below1 w _).trans (hb1.mono (by simp))); clear hb1)
          | (go_at_call 9; refine (live6_any _).mono ?_; rintro e w2 ⟨rfl, hb2⟩; obtain ⟨c2, -⟩ := bat hb2 w.heap.size hl1; have hB2 := Lib.hid (belowT hB1.out hb2); clear hb2)
          | (go_at_call 10; refine (hR.out _).mono ?_; rintro e w3 ⟨rfl, hb3⟩; have hB3 := Lib.hid (belowT hB2.out hb3); clear hb3))
        all_goals go_ret
        all_goals exact ⟨rfl, hB3.out⟩
    have e2 : (t == [99, 104, 97, 116]) = false := by simpa using g2
    by_cases g3 : t = [104, 101, 97, 100, 108, 105, 110, 101]
    · subst g3
      clear hK
      cases R
      · simp only [Bool.false_eq_true, if_false, show errE false = 3 from rfl] at hE
        go_enter Try.func3, Try.ntmps3
        go_wp2_with (first
          | (go_at_call 8; refine (hE.out _).mono ?_; rintro e w1 ⟨va, vc, rfl, hb1⟩; obtain ⟨c1, -⟩ := bat hb1 w.heap.size (by simp); have hl1 : w.heap.size < w1.heap.size := Nat.lt_of_lt_of_le (by simp) hb1.size; have hB1 := Lib.hid ((below1 w _).trans (hb1.mono (by simp))); clear hb1)
          | (go_at_call 9; refine (live6_any _).mono ?_; rintro e w2 ⟨rfl, hb2⟩; obtain ⟨c2, -⟩ := bat hb2 w.heap.size hl1; have hB2 := Lib.hid (belowT hB1.out hb2); clear hb2)
          | (go_at_call 10; refine (hR.out _).mono ?_; rintro e w3 ⟨rfl, hb3⟩; have hB3 := Lib.hid (belowT hB2.out hb3); clear hb3))
        all_goals go_ret
        all_goals exact ⟨rfl, hB3.out⟩
      · simp only [if_true, show errE true = 0 from rfl] at hE
        go_enter Try.func3, Try.ntmps3
        go_wp2_with (first
          | (go_at_call 8; refine (hE.out _).mono ?_; rintro e w1 ⟨va, vc, rfl, hb1⟩; obtain ⟨c1, -⟩ := bat hb1 w.heap.size (by simp); have hl1 : w.heap.size < w1.heap.size := Nat.lt_of_lt_of_le (by simp) hb1.size; have hB1 := Lib.hid ((below1 w _).trans (hb1.mono (by simp))); clear hb1)
          | (go_at_call 9; refine (live6_any _).mono ?_; rintro e w2 ⟨rfl, hb2⟩; obtain ⟨c2, -⟩ := bat hb2 w.heap.size hl1; have hB2 := Lib.hid (belowT hB1.out hb2); clear hb2)
          | (go_at_call 10; refine (hR.out _).mono ?_; rintro e w3 ⟨rfl, hb3⟩; have hB3 := Lib.hid (belowT hB2.out hb3); clear hb3))
        all_goals go_ret
        all_goals exact ⟨rfl, hB3.out⟩
    have e3 : (t == [104, 101, 97, 100, 108, 105, 110, 101]) = false := by simpa using g3
    obtain rfl : R = false := hK (by left; simp [typedB, resL, errL, *])
    clear hK
    simp only [Bool.false_eq_true, if_false, show errE false = 3 from rfl] at hE
    go_enter Try.func3, Try.ntmps3
    go_wp2_with (first
      | (go_at_call 8; refine (hE.out _).mono ?_; rintro e w1 ⟨va, vc, rfl, hb1⟩; obtain ⟨c1, -⟩ := bat hb1 w.heap.size (by simp); have hl1 : w.heap.size < w1.heap.size := Nat.lt_of_lt_of_le (by simp) hb1.size; have hB1 := Lib.hid ((below1 w _).trans (hb1.mono (by simp))); clear hb1)
      | (go_at_call 9; refine (live6_any _).mono ?_; rintro e w2 ⟨rfl, hb2⟩; obtain ⟨c2, -⟩ := bat hb2 w.heap.size hl1; have hB2 := Lib.hid (belowT hB1.out hb2); clear hb2)
      | (go_at_call 10; refine (hR.out _).mono ?_; rintro e w3 ⟨rfl, hb3⟩; have hB3 := Lib.hid (belowT hB2.out hb3); clear hb3))
    all_goals go_ret
    all_goals exact ⟨rfl, hB3.out⟩
  by_cases h3 : k = 3
  · subst h3
    simp only [show ((1 : Nat) : Int) = 1 from rfl, show ((2 : Nat) : Int) = 2 from rfl, show ((3 : Nat) : Int) = 3 from rfl] at hE hR ⊢
    by_cases g0 : t = [101, 114, 114, 111, 114]
    · subst g0
      clear hK
      cases R
      · simp only [Bool.false_eq_true, if_false, show errE false = 3 from rfl] at hE
        go_enter Try.func3, Try.ntmps3
        go_wp2_with (first
          | (go_at_call 8; refine (hE.out _).mono ?_; rintro e w1 ⟨va, vc, rfl, hb1⟩; obtain ⟨c1, -⟩ := bat hb1 w.heap.size (by simp); have hl1 : w.heap.size < w1.heap.size := Nat.lt_of_lt_of_le (by simp) hb1.size; have hB1 := Lib.hid ((below1 w _).trans (hb1.mono (by simp))); clear hb1)
          | (go_at_call 9; refine (live6_any _).mono ?_; rintro e w2 ⟨rfl, hb2⟩; obtain ⟨c2, -⟩ := bat hb2 w.heap.size hl1; have hB2 := Lib.hid (belowT hB1.out hb2); clear hb2)
          | (go_at_call 10; refine (hR.out _).mono ?_; rintro e w3 ⟨rfl, hb3⟩; have hB3 := Lib.hid (belowT hB2.out hb3); clear hb3))
        all_goals go_ret
        all_goals exact ⟨rfl, hB3.out⟩
      · simp only [if_true, show errE true = 0 from rfl] at hE
        go_enter Try.func3, Try.ntmps3
        go_wp2_with (first
          | (go_at_call 8; refine (hE.out _).mono ?_; rintro e w1 ⟨va, vc, rfl, hb1⟩; obtain ⟨c1, -⟩ := bat hb1 w.heap.size (by simp); have hl1 : w.heap.size < w1.heap.size := Nat.lt_of_lt_of_le (by simp) hb1.size; have hB1 := Lib.hid ((below1 w _).trans (hb1.mono (by simp))); clear hb1)
          | (go_at_call 9; refine (live6_any _).mono ?_; rintro e w2 ⟨rfl, hb2⟩; obtain ⟨c2, -⟩ := bat hb2 w.heap.size hl1; have hB2 := Lib.hid (belowT hB1.out hb2); clear hb2)
          | (go_at_call 10; refine (hR.out _).mono ?_; rintro e w3 ⟨rfl, hb3⟩; have hB3 := Lib.hid (belowT hB2.out hb3); clear hb3))
        all_goals go_ret
        all_goals exact ⟨rfl, hB3.out⟩
    have e0 : (t == [101, 114, 114, 111, 114]) = false := by simpa using g0
    by_cases g1 : t = ([] : List UInt8)
    · subst g1
      clear hK
      cases R
      · simp only [Bool.false_eq_true, if_false, show errE false = 3 from rfl] at hE
        go_enter Try.func3, Try.ntmps3
        go_wp2_with (first
          | (go_at_call 8; refine (hE.out _).mono ?_; rintro e w1 ⟨va, vc, rfl, hb1⟩; obtain ⟨c1, -⟩ := bat hb1 w.heap.size (by simp); have hl1 : w.heap.size < w1.heap.size := Nat.lt_of_lt_of_le (by simp) hb1.size; have hB1 := Lib.hid ((below1 w _).trans (hb1.mono (by simp))); clear hb1)
          | (go_at_call 9; refine (live6_any _).mono ?_; rintro e w2 ⟨rfl, hb2⟩; obtain ⟨c2, -⟩ := bat hb2 w.heap.size hl1; have hB2 := Lib.hid (belowT hB1.out hb2); clear hb2)
          | (go_at_call 10; refine (hR.out _).mono ?_; rintro e w3 ⟨rfl, hb3⟩; have hB3 := Lib.hid (belowT hB2.out hb3); clear hb3))
        all_goals go_ret
        all_goals exact ⟨rfl, hB3.out⟩
      · simp only [if_true, show errE true = 0 from rfl] at hE
        go_enter Try.func3, Try.ntmps3
        go_wp2_with (first
          | (go_at_call 8; refine (hE.out _).mono ?_; rintro e w1 ⟨va, vc, rfl, hb1⟩; obtain ⟨c1, -⟩ := bat hb1 w.heap.size (by simp); have hl1 : w.heap.size < w1.heap.size := Nat.lt_of_lt_of_le (by simp) hb1.size; have hB1 := Lib.hid ((below1 w _).trans (hb1.mono (by simp))); clear hb1)
          | (go_at_call 9; refine (live6_any _).mono ?_; rintro e w2 ⟨rfl, hb2⟩; obtain ⟨c2, -⟩ := bat hb2 w.heap.size hl1; have hB2 := Lib.hid (belowT hB1.out hb2); clear hb2)
          | (go_at_call 10; refine (hR.out _).mono ?_; rintro e w3 ⟨rfl, hb3⟩; have hB3 := Lib.hid (belowT hB2.out hb3); clear hb3))
        all_goals go_ret
        all_goals exact ⟨rfl, hB3.out⟩
    have e1 : (t == []) = false := by simpa using g1
    by_cases g2 : t = [117, 110, 97, 118, 97, 105, 108, 97, 98, 108, 101]
    · subst g2
      clear hK
      cases R
      · simp only [Bool.false_eq_true, if_false, show errE false = 3 from rfl] at hE
        go_enter Try.func3, Try.ntmps3
        go_wp2_with (first
          | (go_at_call 8; refine (hE.out _).mono ?_; rintro e w1 ⟨va, vc, rfl, hb1⟩; obtain ⟨c1, -⟩ := bat hb1 w.heap.size (by simp); have hl1 : w.heap.size < w1.heap.size := Nat.lt_of_lt_of_le (by simp) hb1.size; have hB1 := Lib.hid ((below1 w _).trans (hb1.mono (by simp))); clear hb1)
          | (go_at_call 9; refine (live6_any _).mono ?_; rintro e w2 ⟨rfl, hb2⟩; obtain ⟨c2, -⟩ := bat hb2 w.heap.size hl1; have hB2 := Lib.hid (belowT hB1.out hb2); clear hb2)
          | (go_at_call 10; refine (hR.out _).mono ?_; rintro e w3 ⟨rfl, hb3⟩; have hB3 := Lib.hid (belowT hB2.out hb3); clear hb3))
        all_goals go_ret
        all_goals exact ⟨rfl, hB3.out⟩
      · simp only [if_true, show errE true = 0 from rfl] at hE
        go_enter Try.func3, Try.ntmps3
        go_wp2_with (first
          | (go_at_call 8; refine (hE.out _).mono ?_; rintro e w1 ⟨va, vc, rfl, hb1⟩; obtain ⟨c1, -⟩ := bat hb1 w.heap.size (by simp); have hl1 : w.heap.size < w1.heap.size := Nat.lt_of_lt_of_le (by simp) hb1.size; have hB1 := Lib.hid ((below1 w _).trans (hb1.mono (by simp))); clear hb1)
          | (go_at_call 9; refine (live6_any _).mono ?_; rintro e w2 ⟨rfl, hb2⟩; obtain ⟨c2, -⟩ := bat hb2 w.heap.size hl1; have hB2 := Lib.hid (belowT hB1.out hb2); clear hb2)
          | (go_at_call 10; refine (hR.out _).mono ?_; rintro e w3 ⟨rfl, hb3⟩; have hB3 := Lib.hid (belowT hB2.out hb3); clear hb3))
        all_goals go_ret
        all_goals exact ⟨rfl, hB3.out⟩
    have e2 : (t == [117, 110, 97, 118, 97, 105, 108, 97, 98, 108, 101]) = false := by simpa using g2
    obtain rfl : R = false := hK (by left; simp [typedB, resL, errL, *])
    clear hK
    simp only [Bool.false_eq_true, if_false, show errE false = 3 from rfl] at hE
    go_enter Try.func3, Try.ntmps3
    go_wp2_with (first
      | (go_at_call 8; refine (hE.out _).mono ?_; rintro e w1 ⟨va, vc, rfl, hb1⟩; obtain ⟨c1, -⟩ := bat hb1 w.heap.size (by simp); have hl1 : w.heap.size < w1.heap.size := Nat.lt_of_lt_of_le (by simp) hb1.size; have hB1 := Lib.hid ((below1 w _).trans (hb1.mono (by simp))); clear hb1)
      | (go_at_call 9; refine (live6_any _).mono ?_; rintro e w2 ⟨rfl, hb2⟩; obtain ⟨c2, -⟩ := bat hb2 w.heap.size hl1; have hB2 := Lib.hid (belowT hB1.out hb2); clear hb2)
      | (go_at_call 10; refine (hR.out _).mono ?_; rintro e w3 ⟨rfl, hb3⟩; have hB3 := Lib.hid (belowT hB2.out hb3); clear hb3))
    all_goals go_ret
    all_goals exact ⟨rfl, hB3.out⟩
  have f1 : ((k : Int) == 1) = false := by simp; omega
  have fn1 : ¬ (k : Int) = 1 := by omega
  have f2 : ((k : Int) == 2) = false := by simp; omega
  have fn2 : ¬ (k : Int) = 2 := by omega
  have f3 : ((k : Int) == 3) = false := by simp; omega
  have fn3 : ¬ (k : Int) = 3 := by omega
  obtain rfl : R = false := hK (by left; simp [typedB, *])
  clear hK
  simp only [Bool.false_eq_true, if_false, show errE false = 3 from rfl] at hE
  go_enter Try.func3, Try.ntmps3
  go_wp2_with (first
    | (go_at_call 8; refine (hE.out _).mono ?_; rintro e w1 ⟨va, vc, rfl, hb1⟩; obtain ⟨c1, -⟩ := bat hb1 w.heap.size (by simp); have hl1 : w.heap.size < w1.heap.size := Nat.lt_of_lt_of_le (by simp) hb1.size; have hB1 := Lib.hid ((below1 w _).trans (hb1.mono (by simp))); clear hb1)
    | (go_at_call 9; refine (live6_any _).mono ?_; rintro e w2 ⟨rfl, hb2⟩; obtain ⟨c2, -⟩ := bat hb2 w.heap.size hl1; have hB2 := Lib.hid (belowT hB1.out hb2); clear hb2)
    | (go_at_call 10; refine (hR.out _).mono ?_; rintro e w3 ⟨rfl, hb3⟩; have hB3 := Lib.hid (belowT hB2.out hb3); clear hb3))
  all_goals go_ret
  all_goals exact ⟨rfl, hB3.out⟩
theorem stanzaTypes_walk (n : Int) (t id : List UInt8) (w : World) (hn : (Lit.int .u8 n).wf = true) (ht : t.length ≤ 140737488351232) (hid : id.length ≤ 140737488351232) :
    Calls Try.prog 3 #[.int .u8 n, .string ⟨t.toArray⟩, .string ⟨id.toArray⟩] w fun e w' => e = .returned (.bool true) ∧ Below w.heap.size w w' := by
  obtain ⟨k, rfl⟩ : ∃ k : Nat, n = k := ⟨n.toNat, by have := wf8 hn; omega⟩
  have hsm : ({ k := k, ty := t, fr := [], tt := [], id := id, pl := [] } : Sz).small := ⟨⟨ht, by simp, by simp, hid⟩, by simp, fun tk h => by cases h⟩
  have hl : (encL ⟨k, t, [], [], id, []⟩).length = if rightZ ⟨k, t, [], [], id, []⟩ then 2 else 0 := by
    unfold encL
    cases rightZ ⟨k, t, [], [], id, []⟩ <;> simp [tokensZ, elemL]
  refine types_of k t id w (rightZ ⟨k, t, [], [], id, []⟩) known_not (Lib.hid fun W => ?_) (Lib.hid fun W => ?_)
  · refine (encode_any ⟨k, t, [], [], id, []⟩ (.slice none 0 0) W (tk_nil _ 0 (Nat.zero_le _)) hsm).mono ?_
    rintro e w1 ⟨v, rfl, hv, hb⟩
    obtain ⟨a, c, rfl, -⟩ := hv
    exact ⟨a, c, by rw [hl], hb⟩
  · exact right_any6 ⟨k, t, [], [], id, []⟩ (.slice none 0 0) W (tk_nil _ 0 (Nat.zero_le _)) hsm
end Go.Proofs.Ytpgojinfhfipeaa
