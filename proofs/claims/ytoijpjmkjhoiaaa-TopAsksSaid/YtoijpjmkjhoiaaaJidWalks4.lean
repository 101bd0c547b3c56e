/-
  What the program's Parse computes of a text. The text shorter than the reach.
-/
import Derived.Test.YtoijpjmkjhoiaaaJidWalks3
namespace Go.Proofs.Ytoijpjmkjhoiaaa
set_option linter.unusedVariables false
set_option linter.unusedSimpArgs false
open Go.RowKit
attribute [local go_sem] setCell_drewN alloc_drewN drewN_drewN
def jidV (l d r : List UInt8) : Value := .agg #[.string ⟨l.toArray⟩, .string ⟨d.toArray⟩, .string ⟨r.toArray⟩]
/-- what Parse hands back -/
def parseV (s : List UInt8) : Value := match parseL s with
  | some (l, d, r) => .tuple #[.agg #[.string ⟨l.toArray⟩, .string ⟨d.toArray⟩, .string ⟨r.toArray⟩], .int .i64 0]
  | none => .tuple #[.agg #[.string ⟨#[]⟩, .string ⟨#[]⟩, .string ⟨#[]⟩], .int .i64 3]
theorem cutB_le (c : UInt8) (s : List UInt8) : (cutB c s).1.length ≤ s.length ∧ (cutB c s).2.1.length ≤ s.length := by
  have h := congrArg List.length (cutB_join c s)
  cases hb : (cutB c s).2.2
  · rw [hb] at h; have := cutB_rest c s hb; simp at h; simp [this]; omega
  · rw [hb] at h; simp at h; omega
set_option maxHeartbeats 4000000 in
theorem parse_any (s : List UInt8) (w : World) (hs : s.length ≤ 140737488351232) :
    Calls Try.prog 31 #[.string ⟨s.toArray⟩] w fun e w' => e = .returned (parseV s) ∧ Below w.heap.size w w' := by
  obtain ⟨hf1, hf2⟩ := cutB_le 47 s
  obtain ⟨hg1, hg2⟩ := cutB_le 64 (cutB 47 s).1
  by_cases hA : ((cutB 47 s).2.2 && !partP (cutB 47 s).2.1) = true
  · have HV : Hid (parseV s = .tuple #[.agg #[.string ⟨#[]⟩, .string ⟨#[]⟩, .string ⟨#[]⟩], .int .i64 3]) := by simp only [Hid, parseV, parseL, if_pos hA]
    simp only [Bool.and_eq_true, Bool.not_eq_true'] at hA
    obtain ⟨k1, k2⟩ := hA
    go_enter Try.func31, Try.ntmps31
    go_wp2_with fail
    refine wp_scope_fwd 0 rfl ?_
    go_wp2_with (first
      | (go_at_call 57; refine (cut_any _ _ _ (by omega)).mono ?_; rintro e w' ⟨rfl, n, rfl⟩)
      | (go_at_call 58; refine (part_any _ _ (by omega)).mono ?_; rintro e w' ⟨rfl, rfl⟩)
      | (go_at_call 59; refine (jidRight_any _ _ _ _ (by first | omega | simp) (by omega) (by omega)).mono ?_; rintro e w' ⟨rfl, hb⟩; obtain ⟨hc, hz⟩ := bcell hb; have hz0 := hb.size; simp at hz0; replace hb := Lib.hid hb))
    go_step3
    refine ⟨rfl, ?_⟩
    go_wp2
    rw [Exit.noGoto_ret]
    refine bodyPost_ret (v := .tuple #[.agg #[.string ⟨#[]⟩, .string ⟨#[]⟩, .string ⟨#[]⟩], .int .i64 3]) (by simp [results, Try.results31, go_sem]) rfl ⟨by rw [HV.out], ?_⟩
    exact belowN (below1 w _) _
  · by_cases hB : ((cutB 64 (cutB 47 s).1).2.2 && !partP (cutB 64 (cutB 47 s).1).1) = true
    · have HV : Hid (parseV s = .tuple #[.agg #[.string ⟨#[]⟩, .string ⟨#[]⟩, .string ⟨#[]⟩], .int .i64 3]) := by simp only [Hid, parseV, parseL, if_neg hA, if_pos hB]
      simp only [Bool.and_eq_true, Bool.not_eq_true', not_and, Bool.not_eq_false] at hA hB
      obtain ⟨m1, m2⟩ := hB
      cases k1 : (cutB 47 s).2.2
      all_goals
        try (have k2 := hA k1)
        clear hA
        go_enter Try.func31, Try.ntmps31
        go_wp2_with fail
        refine wp_scope_fwd 0 rfl ?_
        go_wp2_with (first
          | (go_at_call 57; refine (cut_any _ _ _ (by omega)).mono ?_; rintro e w' ⟨rfl, n, rfl⟩)
          | (go_at_call 58; refine (part_any _ _ (by omega)).mono ?_; rintro e w' ⟨rfl, rfl⟩)
          | (go_at_call 59; refine (jidRight_any _ _ _ _ (by first | omega | simp) (by omega) (by omega)).mono ?_; rintro e w' ⟨rfl, hb⟩; obtain ⟨hc, hz⟩ := bcell hb; have hz0 := hb.size; simp at hz0; replace hb := Lib.hid hb))
        go_step3
        refine ⟨rfl, ?_⟩
        go_wp2
        rw [Exit.noGoto_ret]
        refine bodyPost_ret (v := .tuple #[.agg #[.string ⟨#[]⟩, .string ⟨#[]⟩, .string ⟨#[]⟩], .int .i64 3]) (by simp [results, Try.results31, go_sem]) rfl ⟨by rw [HV.out], ?_⟩
        exact belowN (below1 w _) _
    · cases hR : rightJ (if (cutB 64 (cutB 47 s).1).2.2 then (cutB 64 (cutB 47 s).1).1 else []) (if (cutB 64 (cutB 47 s).1).2.2 then (cutB 64 (cutB 47 s).1).2.1 else (cutB 47 s).1) (cutB 47 s).2.1
      · have HV : Hid (parseV s = .tuple #[.agg #[.string ⟨#[]⟩, .string ⟨#[]⟩, .string ⟨#[]⟩], .int .i64 3]) := by simp only [Hid, parseV, parseL, if_neg hA, if_neg hB, hR]; rfl
        simp only [Bool.and_eq_true, Bool.not_eq_true', not_and, Bool.not_eq_false] at hA hB
        cases k1 : (cutB 47 s).2.2 <;> cases m1 : (cutB 64 (cutB 47 s).1).2.2 <;> simp only [m1, if_true, if_false, Bool.false_eq_true] at hR
        all_goals
          try (have k2 := hA k1)
          try (have m2 := hB m1)
          clear hA hB
          go_enter Try.func31, Try.ntmps31
          go_wp2_with fail
          refine wp_scope_fwd 0 rfl ?_
          go_wp2_with (first
            | (go_at_call 57; refine (cut_any _ _ _ (by omega)).mono ?_; rintro e w' ⟨rfl, n, rfl⟩)
            | (go_at_call 58; refine (part_any _ _ (by omega)).mono ?_; rintro e w' ⟨rfl, rfl⟩)
            | (go_at_call 59; refine (jidRight_any _ _ _ _ (by first | omega | simp) (by omega) (by omega)).mono ?_; rintro e w' ⟨rfl, hb⟩; obtain ⟨hc, hz⟩ := bcell hb; have hz0 := hb.size; simp at hz0; replace hb := Lib.hid hb))
          go_step3
          refine ⟨rfl, ?_⟩
          go_wp2
          rw [Exit.noGoto_ret]
          refine bodyPost_ret (v := .tuple #[.agg #[.string ⟨#[]⟩, .string ⟨#[]⟩, .string ⟨#[]⟩], .int .i64 3]) (by simp [results, Try.results31, go_sem, hc, hz]) rfl ⟨by rw [HV.out], ?_⟩
          exact (((below1tN hb.out).setCell (Nat.le_refl _) _).setCell (Nat.le_refl _) _).setCell (Nat.le_refl _) _
      · have HV : Hid (parseV s = .tuple #[.agg #[.string ⟨(if (cutB 64 (cutB 47 s).1).2.2 then (cutB 64 (cutB 47 s).1).1 else []).toArray⟩, .string ⟨(if (cutB 64 (cutB 47 s).1).2.2 then (cutB 64 (cutB 47 s).1).2.1 else (cutB 47 s).1).toArray⟩, .string ⟨(cutB 47 s).2.1.toArray⟩], .int .i64 0]) := by simp only [Hid, parseV, parseL, if_neg hA, if_neg hB, hR]; rfl
        simp only [Bool.and_eq_true, Bool.not_eq_true', not_and, Bool.not_eq_false] at hA hB
        cases m1 : (cutB 64 (cutB 47 s).1).2.2
        · simp only [m1, if_false, Bool.false_eq_true] at hR HV
          clear hB
          cases k1 : (cutB 47 s).2.2
          all_goals
            try (have k2 := hA k1)
            clear hA
            go_enter Try.func31, Try.ntmps31
            go_wp2_with fail
            refine wp_scope_fwd 0 rfl ?_
            go_wp2_with (first
              | (go_at_call 57; refine (cut_any _ _ _ (by omega)).mono ?_; rintro e w' ⟨rfl, n, rfl⟩)
              | (go_at_call 58; refine (part_any _ _ (by omega)).mono ?_; rintro e w' ⟨rfl, rfl⟩)
              | (go_at_call 59; refine (jidRight_any _ _ _ _ (by first | omega | simp) (by omega) (by omega)).mono ?_; rintro e w' ⟨rfl, hb⟩; obtain ⟨hc, hz⟩ := bcell hb; have hz0 := hb.size; simp at hz0; replace hb := Lib.hid hb))
            rw [jump_ret]
            refine bodyPost_ret (v := .tuple #[.agg #[.string ⟨#[]⟩, .string ⟨(cutB 47 s).1.toArray⟩, .string ⟨(cutB 47 s).2.1.toArray⟩], .int .i64 0]) (by simp [results, Try.results31, go_sem, hc, hz]) rfl ⟨by rw [HV.out], ?_⟩
            exact (((below1tN hb.out).setCell (Nat.le_refl _) _).setCell (Nat.le_refl _) _).setCell (Nat.le_refl _) _
        · simp only [m1, if_true] at hR HV
          have m2 := hB m1
          clear hB
          cases k1 : (cutB 47 s).2.2
          all_goals
            try (have k2 := hA k1)
            clear hA
            go_enter Try.func31, Try.ntmps31
            go_wp2_with fail
            refine wp_scope_fwd 0 rfl ?_
            go_wp2_with (first
              | (go_at_call 57; refine (cut_any _ _ _ (by omega)).mono ?_; rintro e w' ⟨rfl, n, rfl⟩)
              | (go_at_call 58; refine (part_any _ _ (by omega)).mono ?_; rintro e w' ⟨rfl, rfl⟩)
              | (go_at_call 59; refine (jidRight_any _ _ _ _ (by first | omega | simp) (by omega) (by omega)).mono ?_; rintro e w' ⟨rfl, hb⟩; obtain ⟨hc, hz⟩ := bcell hb; have hz0 := hb.size; simp at hz0; replace hb := Lib.hid hb))
            rw [jump_ret]
            refine bodyPost_ret (v := .tuple #[.agg #[.string ⟨(cutB 64 (cutB 47 s).1).1.toArray⟩, .string ⟨(cutB 64 (cutB 47 s).1).2.1.toArray⟩, .string ⟨(cutB 47 s).2.1.toArray⟩], .int .i64 0]) (by simp [results, Try.results31, go_sem, hc, hz]) rfl ⟨by rw [HV.out], ?_⟩
            exact (((below1tN hb.out).setCell (Nat.le_refl _) _).setCell (Nat.le_refl _) _).setCell (Nat.le_refl _) _
end Go.Proofs.Ytoijpjmkjhoiaaa
