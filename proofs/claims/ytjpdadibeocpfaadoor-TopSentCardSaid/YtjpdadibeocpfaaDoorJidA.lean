/-
  What the program's functions on addresses compute: parts, texts, whether one is right (package jid). Each string shorter than the reach.
-/
import Derived.Test.YtjpdadibeocpfaaDoorProg
import Derived.Test.YtjpdadibeocpfaaDoorJidPure
import Derived.Test.YtjpdadibeocpfaaDoorBase
import Derived.WalkKit
import Derived.LoopTactic
import Derived.Lib.Hide
import Derived.Outline
import Derived.Test.YtjpdadibeocpfaaDoorShelf
import Derived.WalkSpells
import Derived.BigQuiet
import Derived.Deep.QuietTactic
import Derived.Deep.RegionHeld3
namespace Go.Proofs.YtjpdadibeocpfaaDoor
set_option linter.unusedVariables false
set_option linter.unusedSimpArgs false
open Go.RowKit
theorem le64 (n : Nat) : decide ((n : Int) ≤ 64) = decide (n ≤ 64) := by rw [decide_eq_decide]; omega
attribute [local go_sem] mk_get
theorem or32 (c : UInt8) : (97 ≤ Go.bits .or .u8 (c.toNat : Int) 32 ∧ Go.bits .or .u8 (c.toNat : Int) 32 ≤ 122) ↔ ((97 ≤ c.toNat ∧ c.toNat ≤ 122) ∨ (65 ≤ c.toNat ∧ c.toNat ≤ 90)) :=
  all_u8 (p := fun c => (97 ≤ Go.bits .or .u8 (c.toNat : Int) 32 ∧ Go.bits .or .u8 (c.toNat : Int) 32 ≤ 122) ↔ ((97 ≤ c.toNat ∧ c.toNat ≤ 122) ∨ (65 ≤ c.toNat ∧ c.toNat ≤ 90))) (by decide +kernel) c
set_option maxHeartbeats 1000000 in
theorem part_any (s : List UInt8) (w : World) (hs : s.length ≤ 140737488351232) :
    Calls Tryd.prog 44 #[.string ⟨s.toArray⟩] w fun e w' => e = .returned (.bool (partP s)) ∧ w = w' := by
  go_enter Tryd.func44, Tryd.ntmps44
  go_wp2
  go_loop [7] (fun i => ∃ k : Nat, k ≤ s.length ∧ i = .int .i64 k ∧ Hid (lettersL (s.take k) = true)) (fun i => s.length - (intOf i).toNat)
  case atStart => exact ⟨0, Nat.zero_le _, rfl, rfl⟩
  case round =>
    obtain ⟨k, hk, rfl, HA⟩ := hrel
    by_cases hlt : k < s.length
    · have HX := Lib.hid (or32 s[k])
      go_wp2
      all_goals first
        | (go_round
           case rel => exact ⟨k + 1, by omega, by go_num, letters_snoc s k hlt HA.out (by simp only [letterN, decide_eq_true_eq]; have := HX.out; simp at *; omega)⟩
           case measure => simp [intOf]; omega)
        | (go_ret; exact ⟨ret_bool (partP_no (letters_not s k hlt (by simp only [letterN, decide_eq_false_iff_not]; have := HX.out; simp at *; omega))), rfl⟩)
    · go_wp2
      all_goals (go_ret; refine ⟨ret_bool ?_, rfl⟩; have hl := letters_all s k hlt HA.out; simp_all [partP, part0, le64])
theorem join_any (l d r : List UInt8) (w : World) (h1 : l.length ≤ 64) (h2 : d.length ≤ 64) (h3 : r.length ≤ 64) :
    Calls Tryd.prog 59 #[.agg #[.string ⟨l.toArray⟩, .string ⟨d.toArray⟩, .string ⟨r.toArray⟩]] w fun e w' => e = .returned (.string ⟨(joinL l d r).toArray⟩) ∧ Below w.heap.size w w' := by
  go_enter Tryd.func59, Tryd.ntmps59
  go_wp2
  all_goals
    go_ret
    refine ⟨ret_str ?_, (Below.refl _ _).alloc (Nat.le_refl _) _⟩
    unfold joinL
    simp_all
end Go.Proofs.YtjpdadibeocpfaaDoor
/-
  What the program's functions on addresses compute: whether one is right, its print, its parse, its forms. Each string shorter than the reach.
-/
namespace Go.Proofs.YtjpdadibeocpfaaDoor
set_option linter.unusedVariables false
set_option linter.unusedSimpArgs false
open Go.RowKit
set_option maxHeartbeats 2000000 in
theorem jidRight_any (l d r : List UInt8) (w : World) (h1 : l.length ≤ 140737488351232) (h2 : d.length ≤ 140737488351232) (h3 : r.length ≤ 140737488351232) :
    Calls Tryd.prog 45 #[.agg #[.string ⟨l.toArray⟩, .string ⟨d.toArray⟩, .string ⟨r.toArray⟩]] w fun e w' => e = .returned (.bool (rightJ l d r)) ∧ Below w.heap.size w w' := by
  have H0 : Hid (∀ o, Below w.heap.size w (w.alloc o)) := fun o => (Below.refl _ _).alloc (Nat.le_refl _) _
  by_cases hP : partP d && (l.isEmpty || partP l) && (r.isEmpty || partP r)
  · have hR : Hid (decide ((joinL l d r).length ≤ 64) = rightJ l d r) := by simp [Hid, rightJ, hP]
    simp only [Bool.and_eq_true, Bool.or_eq_true] at hP
    obtain ⟨⟨e1, e2⟩, e3⟩ := hP
    have g1 : d.length ≤ 64 := (partP_letters e1).2.2
    have g2 : l.length ≤ 64 := by rcases e2 with e | e; (simp at e; simp [e]); exact (partP_letters e).2.2
    have g3 : r.length ≤ 64 := by rcases e3 with e | e; (simp at e; simp [e]); exact (partP_letters e).2.2
    cases hl : l.isEmpty <;> cases hr : r.isEmpty <;> simp only [hl, hr, Bool.false_eq_true, false_or, true_or] at e2 e3
    all_goals
      go_enter Tryd.func45, Tryd.ntmps45
      go_wp2_with (first
        | (go_at_call 44; refine (part_any _ _ (by omega)).mono ?_; rintro e w' ⟨rfl, rfl⟩)
        | (go_at_call 59; refine (join_any _ _ _ _ (by omega) (by omega) (by omega)).mono ?_; rintro e w' ⟨rfl, hb⟩))
      go_ret
      refine ⟨ret_bool ?_, ((H0.out _).trans (hb.mono (by simp)))⟩
      rw [← hR.out, le64]
  · have hR : Hid (false = rightJ l d r) := by simp only [Bool.not_eq_true] at hP; simp [Hid, rightJ, hP]
    cases e1 : partP d
    · go_enter Tryd.func45, Tryd.ntmps45
      go_wp2_with (go_at_call 44; refine (part_any _ _ (by omega)).mono ?_; rintro e w' ⟨rfl, rfl⟩)
      go_ret
      exact ⟨ret_bool hR.out, H0.out _⟩
    · cases hl : l.isEmpty <;> cases e2 : partP l <;> cases hr : r.isEmpty <;> cases e3 : partP r
      all_goals simp only [e1, hl, e2, hr, e3, Bool.true_and, Bool.false_or, Bool.true_or, Bool.and_true, Bool.and_false, Bool.and_self, not_true_eq_false, not_false_eq_true, Bool.false_eq_true] at hP
      all_goals
        clear hP
        go_enter Tryd.func45, Tryd.ntmps45
        go_wp2_with (go_at_call 44; refine (part_any _ _ (by omega)).mono ?_; rintro e w' ⟨rfl, rfl⟩)
        go_ret
        exact ⟨ret_bool hR.out, H0.out _⟩
end Go.Proofs.YtjpdadibeocpfaaDoor
/-
  What the program's functions on addresses compute: print and parse, forms. Each string shorter than the reach.
-/
namespace Go.Proofs.YtjpdadibeocpfaaDoor
set_option linter.unusedVariables false
set_option linter.unusedSimpArgs false
open Go.RowKit
def printJ (l d r : List UInt8) : List UInt8 := if rightJ l d r then joinL l d r else []
def errJ (b : Bool) : Int := if b then 0 else 3
theorem cutS_any (s : List UInt8) (c : UInt8) (w : World) (hs : s.length ≤ 140737488351232) :
    Calls Tryd.prog 58 #[.string ⟨s.toArray⟩, .string ⟨#[c]⟩] w fun e w' => e = .returned (.tuple #[.string ⟨(cutB c s).1.toArray⟩, .string ⟨(cutB c s).2.1.toArray⟩, .bool (cutB c s).2.2]) ∧ ∃ n, w' = w.drewN n := by
  by_cases hn : Lib.indexByte s c < 0
  · have e := Lib.hid (cutB_none hn)
    have hd : decide (0 ≤ Lib.indexByte s c) = false := by simp; omega
    go_enter Tryd.func58, Tryd.ntmps58
    go_wp2_with (go_at_call 72; refine (Tryd.stringslite_Index_one _ _ _).mono ?_; rintro e w' ⟨rfl, rfl⟩)
    go_ret3
    exact ⟨Eq.trans (b := Ending.returned (.tuple #[.string ⟨s.toArray⟩, .string ⟨#[]⟩, .bool false])) rfl (by rw [e.out]), 0, rfl⟩
  · obtain ⟨g1, g2⟩ := cutB_some (c := c) (l := s) (by omega)
    replace g2 := Lib.hid g2
    obtain ⟨n, hn'⟩ : ∃ n : Nat, Lib.indexByte s c = n := ⟨(Lib.indexByte s c).toNat, by omega⟩
    rw [hn'] at g1 g2
    rw [Int.toNat_natCast] at g1
    have HI := Lib.hid hn'
    clear hn hn'
    have q1 : (0 : Int) ≤ (n : Int) := by omega
    have q2 : (n : Int) ≤ (s.length : Int) := by omega
    have q3 : (n : Int) + 1 ≤ (s.length : Int) := by omega
    have q4 : (0 : Int) ≤ (n : Int) + 1 := by omega
    go_enter Tryd.func58, Tryd.ntmps58
    go_wp2_with (go_at_call 72; refine (Tryd.stringslite_Index_one _ _ _).mono ?_; rintro e w' ⟨rfl, rfl⟩; rw [HI.out])
    go_quiet (fail)
    go_wp2
    go_ret3
    refine ⟨Eq.trans (b := Ending.returned (.tuple #[.string ((ByteArray.mk s.toArray).extract 0 n), .string ((ByteArray.mk s.toArray).extract (n + 1) s.length), .bool true])) rfl ?_, _, rfl⟩
    rw [ByteArray.extract_mk, ByteArray.extract_mk]
    have g := g2.out
    simp only [Int.toNat_natCast] at g
    rw [g]
    simp only [List.drop_zero, Nat.sub_zero]
    rw [List.take_of_length_le (i := s.length - (n + 1)) (by simp)]
theorem cut_any (s : List UInt8) (c : UInt8) (w : World) (hs : s.length ≤ 140737488351232) :
    Calls Tryd.prog 43 #[.string ⟨s.toArray⟩, .string ⟨#[c]⟩] w fun e w' => e = .returned (.tuple #[.string ⟨(cutB c s).1.toArray⟩, .string ⟨(cutB c s).2.1.toArray⟩, .bool (cutB c s).2.2]) ∧ ∃ n, w' = w.drewN n := by
  go_enter Tryd.func43, Tryd.ntmps43
  go_wp2_with (go_at_call 58; refine (cutS_any _ _ _ (by omega)).mono ?_; rintro e w' ⟨rfl, n, rfl⟩)
  go_ret3
  exact ⟨rfl, n, rfl⟩
end Go.Proofs.YtjpdadibeocpfaaDoor
/-
  What the program's Parse computes of a text. The text shorter than the reach.
-/
namespace Go.Proofs.YtjpdadibeocpfaaDoor
set_option linter.unusedVariables false
set_option linter.unusedSimpArgs false
open Go.RowKit
attribute [local go_sem] setCell_drewN alloc_drewN drewN_drewN
def jidV (l d r : List UInt8) : Value := .agg #[.string ⟨l.toArray⟩, .string ⟨d.toArray⟩, .string ⟨r.toArray⟩]
/-- what Parse hands back -/
def parseV (s : List UInt8) : Value := match parseL s with
  | some (l, d, r) => .tuple #[.agg #[.string ⟨l.toArray⟩, .string ⟨d.toArray⟩, .string ⟨r.toArray⟩], .int .i64 0]
  | none => .tuple #[.agg #[.string ⟨#[]⟩, .string ⟨#[]⟩, .string ⟨#[]⟩], .int .i64 3]
theorem cutB_le (c : UInt8) (s : List UInt8) : (cutB c s).1.length ≤ s.length ∧ (cutB c s).2.1.length ≤ s.length := by
  have h := congrArg List.length (cutB_join c s)
  cases hb : (cutB c s).2.2
  · rw [hb] at h; have := cutB_rest c s hb; simp at h; simp [this]; omega
  · rw [hb] at h; simp at h; omega
set_option maxHeartbeats 4000000 in
theorem parse_any (s : List UInt8) (w : World) (hs : s.length ≤ 140737488351232) :
    Calls Tryd.prog 29 #[.string ⟨s.toArray⟩] w fun e w' => e = .returned (parseV s) ∧ Below w.heap.size w w' := by
  obtain ⟨hf1, hf2⟩ := cutB_le 47 s
  obtain ⟨hg1, hg2⟩ := cutB_le 64 (cutB 47 s).1
  by_cases hA : ((cutB 47 s).2.2 && !partP (cutB 47 s).2.1) = true
  · have HV : Hid (parseV s = .tuple #[.agg #[.string ⟨#[]⟩, .string ⟨#[]⟩, .string ⟨#[]⟩], .int .i64 3]) := by simp only [Hid, parseV, parseL, if_pos hA]
    simp only [Bool.and_eq_true, Bool.not_eq_true'] at hA
    obtain ⟨k1, k2⟩ := hA
    go_enter Tryd.func29, Tryd.ntmps29
    go_wp2_with fail
    refine wp_scope_fwd 0 rfl ?_
    go_wp2_with (first
      | (go_at_call 43; refine (cut_any _ _ _ (by omega)).mono ?_; rintro e w' ⟨rfl, n, rfl⟩)
      | (go_at_call 44; refine (part_any _ _ (by omega)).mono ?_; rintro e w' ⟨rfl, rfl⟩)
      | (go_at_call 45; refine (jidRight_any _ _ _ _ (by first | omega | simp) (by omega) (by omega)).mono ?_; rintro e w' ⟨rfl, hb⟩; obtain ⟨hc, hz⟩ := bcell hb; have hz0 := hb.size; simp at hz0; replace hb := Lib.hid hb))
    go_step3
    refine ⟨rfl, ?_⟩
    go_wp2
    rw [Exit.noGoto_ret]
    refine bodyPost_ret (v := .tuple #[.agg #[.string ⟨#[]⟩, .string ⟨#[]⟩, .string ⟨#[]⟩], .int .i64 3]) (by simp [results, Tryd.results29, go_sem]) rfl ⟨by rw [HV.out], ?_⟩
    exact belowN (below1 w _) _
  · by_cases hB : ((cutB 64 (cutB 47 s).1).2.2 && !partP (cutB 64 (cutB 47 s).1).1) = true
    · have HV : Hid (parseV s = .tuple #[.agg #[.string ⟨#[]⟩, .string ⟨#[]⟩, .string ⟨#[]⟩], .int .i64 3]) := by simp only [Hid, parseV, parseL, if_neg hA, if_pos hB]
      simp only [Bool.and_eq_true, Bool.not_eq_true', not_and, Bool.not_eq_false] at hA hB
      obtain ⟨m1, m2⟩ := hB
      cases k1 : (cutB 47 s).2.2
      all_goals
        try (have k2 := hA k1)
        clear hA
        go_enter Tryd.func29, Tryd.ntmps29
        go_wp2_with fail
        refine wp_scope_fwd 0 rfl ?_
        go_wp2_with (first
          | (go_at_call 43; refine (cut_any _ _ _ (by omega)).mono ?_; rintro e w' ⟨rfl, n, rfl⟩)
          | (go_at_call 44; refine (part_any _ _ (by omega)).mono ?_; rintro e w' ⟨rfl, rfl⟩)
          | (go_at_call 45; refine (jidRight_any _ _ _ _ (by first | omega | simp) (by omega) (by omega)).mono ?_; rintro e w' ⟨rfl, hb⟩; obtain ⟨hc, hz⟩ := bcell hb; have hz0 := hb.size; simp at hz0; replace hb := Lib.hid hb))
        go_step3
        refine ⟨rfl, ?_⟩
        go_wp2
        rw [Exit.noGoto_ret]
        refine bodyPost_ret (v := .tuple #[.agg #[.string ⟨#[]⟩, .string ⟨#[]⟩, .string ⟨#[]⟩], .int .i64 3]) (by simp [results, Tryd.results29, go_sem]) rfl ⟨by rw [HV.out], ?_⟩
        exact belowN (below1 w _) _
    · cases hR : rightJ (if (cutB 64 (cutB 47 s).1).2.2 then (cutB 64 (cutB 47 s).1).1 else []) (if (cutB 64 (cutB 47 s).1).2.2 then (cutB 64 (cutB 47 s).1).2.1 else (cutB 47 s).1) (cutB 47 s).2.1
      · have HV : Hid (parseV s = .tuple #[.agg #[.string ⟨#[]⟩, .string ⟨#[]⟩, .string ⟨#[]⟩], .int .i64 3]) := by simp only [Hid, parseV, parseL, if_neg hA, if_neg hB, hR]; rfl
        simp only [Bool.and_eq_true, Bool.not_eq_true', not_and, Bool.not_eq_false] at hA hB
        cases k1 : (cutB 47 s).2.2 <;> cases m1 : (cutB 64 (cutB 47 s).1).2.2 <;> simp only [m1, if_true, if_false, Bool.false_eq_true] at hR
        all_goals
          try (have k2 := hA k1)
          try (have m2 := hB m1)
          clear hA hB
          go_enter Tryd.func29, Tryd.ntmps29
          go_wp2_with fail
          refine wp_scope_fwd 0 rfl ?_
          go_wp2_with (first
            | (go_at_call 43; refine (cut_any _ _ _ (by omega)).mono ?_; rintro e w' ⟨rfl, n, rfl⟩)
            | (go_at_call 44; refine (part_any _ _ (by omega)).mono ?_; rintro e w' ⟨rfl, rfl⟩)
            | (go_at_call 45; refine (jidRight_any _ _ _ _ (by first | omega | simp) (by omega) (by omega)).mono ?_; rintro e w' ⟨rfl, hb⟩; obtain ⟨hc, hz⟩ := bcell hb; have hz0 := hb.size; simp at hz0; replace hb := Lib.hid hb))
          go_step3
          refine ⟨rfl, ?_⟩
          go_wp2
          rw [Exit.noGoto_ret]
          refine bodyPost_ret (v := .tuple #[.agg #[.string ⟨#[]⟩, .string ⟨#[]⟩, .string ⟨#[]⟩], .int .i64 3]) (by simp [results, Tryd.results29, go_sem, hc, hz]) rfl ⟨by rw [HV.out], ?_⟩
          exact (((below1tN hb.out).setCell (Nat.le_refl _) _).setCell (Nat.le_refl _) _).setCell (Nat.le_refl _) _
      · have HV : Hid (parseV s = .tuple #[.agg #[.string ⟨(if (cutB 64 (cutB 47 s).1).2.2 then (cutB 64 (cutB 47 s).1).1 else []).toArray⟩, .string ⟨(if (cutB 64 (cutB 47 s).1).2.2 then (cutB 64 (cutB 47 s).1).2.1 else (cutB 47 s).1).toArray⟩, .string ⟨(cutB 47 s).2.1.toArray⟩], .int .i64 0]) := by simp only [Hid, parseV, parseL, if_neg hA, if_neg hB, hR]; rfl
        simp only [Bool.and_eq_true, Bool.not_eq_true', not_and, Bool.not_eq_false] at hA hB
        cases m1 : (cutB 64 (cutB 47 s).1).2.2
        · simp only [m1, if_false, Bool.false_eq_true] at hR HV
          clear hB
          cases k1 : (cutB 47 s).2.2
          all_goals
            try (have k2 := hA k1)
            clear hA
            go_enter Tryd.func29, Tryd.ntmps29
            go_wp2_with fail
            refine wp_scope_fwd 0 rfl ?_
            go_wp2_with (first
              | (go_at_call 43; refine (cut_any _ _ _ (by omega)).mono ?_; rintro e w' ⟨rfl, n, rfl⟩)
              | (go_at_call 44; refine (part_any _ _ (by omega)).mono ?_; rintro e w' ⟨rfl, rfl⟩)
              | (go_at_call 45; refine (jidRight_any _ _ _ _ (by first | omega | simp) (by omega) (by omega)).mono ?_; rintro e w' ⟨rfl, hb⟩; obtain ⟨hc, hz⟩ := bcell hb; have hz0 := hb.size; simp at hz0; replace hb := Lib.hid hb))
            rw [jump_ret]
            refine bodyPost_ret (v := .tuple #[.agg #[.string ⟨#[]⟩, .string ⟨(cutB 47 s).1.toArray⟩, .string ⟨(cutB 47 s).2.1.toArray⟩], .int .i64 0]) (by simp [results, Tryd.results29, go_sem, hc, hz]) rfl ⟨by rw [HV.out], ?_⟩
            exact (((below1tN hb.out).setCell (Nat.le_refl _) _).setCell (Nat.le_refl _) _).setCell (Nat.le_refl _) _
        · simp only [m1, if_true] at hR HV
          have m2 := hB m1
          clear hB
          cases k1 : (cutB 47 s).2.2
          all_goals
            try (have k2 := hA k1)
            clear hA
            go_enter Tryd.func29, Tryd.ntmps29
            go_wp2_with fail
            refine wp_scope_fwd 0 rfl ?_
            go_wp2_with (first
              | (go_at_call 43; refine (cut_any _ _ _ (by omega)).mono ?_; rintro e w' ⟨rfl, n, rfl⟩)
              | (go_at_call 44; refine (part_any _ _ (by omega)).mono ?_; rintro e w' ⟨rfl, rfl⟩)
              | (go_at_call 45; refine (jidRight_any _ _ _ _ (by first | omega | simp) (by omega) (by omega)).mono ?_; rintro e w' ⟨rfl, hb⟩; obtain ⟨hc, hz⟩ := bcell hb; have hz0 := hb.size; simp at hz0; replace hb := Lib.hid hb))
            rw [jump_ret]
            refine bodyPost_ret (v := .tuple #[.agg #[.string ⟨(cutB 64 (cutB 47 s).1).1.toArray⟩, .string ⟨(cutB 64 (cutB 47 s).1).2.1.toArray⟩, .string ⟨(cutB 47 s).2.1.toArray⟩], .int .i64 0]) (by simp [results, Tryd.results29, go_sem, hc, hz]) rfl ⟨by rw [HV.out], ?_⟩
            exact (((below1tN hb.out).setCell (Nat.le_refl _) _).setCell (Nat.le_refl _) _).setCell (Nat.le_refl _) _
end Go.Proofs.YtjpdadibeocpfaaDoor
