/-
  strings.Cut at one byte, by the library's law on Index. Each string shorter than the reach.
-/
import Derived.Test.YtjpdadibeocpfaaDoorPrUneP
import Derived.Test.YtjpdadibeocpfaaDoorShelf
import Derived.WalkKit
import Derived.BigQuiet
import Derived.Deep.QuietTactic
namespace Go.Proofs.YtjpdadibeocpfaaDoor
set_option linter.unusedVariables false
set_option linter.unusedSimpArgs false
open Go.RowKit
theorem xcutS_any (s : List UInt8) (c : UInt8) (w : World) (hs : s.length ≤ 140737488351232) :
    Calls Tryd.prog 58 #[.string ⟨s.toArray⟩, .string ⟨#[c]⟩] w fun e w' => e = .returned (.tuple #[.string ⟨(cutB c s).1.toArray⟩, .string ⟨(cutB c s).2.1.toArray⟩, .bool (cutB c s).2.2]) ∧ ∃ n, w' = w.drewN n := by
  by_cases hn : Lib.indexByte s c < 0
  · have e := Lib.hid (cutB_none hn)
    have hd : decide (0 ≤ Lib.indexByte s c) = false := by simp; omega
    go_enter Tryd.func58, Tryd.ntmps58
    go_wp2_with (go_at_call 72; refine (Tryd.stringslite_Index_one _ _ _).mono ?_; rintro e w' ⟨rfl, rfl⟩)
    go_ret3
    exact ⟨Eq.trans (b := Ending.returned (.tuple #[.string ⟨s.toArray⟩, .string ⟨#[]⟩, .bool false])) rfl (by rw [e.out]), 0, rfl⟩
  · obtain ⟨g1, g2⟩ := cutB_some (c := c) (l := s) (by omega)
    replace g2 := Lib.hid g2
    obtain ⟨n, hn'⟩ : ∃ n : Nat, Lib.indexByte s c = n := ⟨(Lib.indexByte s c).toNat, by omega⟩
    rw [hn'] at g1 g2
    rw [Int.toNat_natCast] at g1
    have HI := Lib.hid hn'
    clear hn hn'
    have q1 : (0 : Int) ≤ (n : Int) := by omega
    have q2 : (n : Int) ≤ (s.length : Int) := by omega
    have q3 : (n : Int) + 1 ≤ (s.length : Int) := by omega
    have q4 : (0 : Int) ≤ (n : Int) + 1 := by omega
    go_enter Tryd.func58, Tryd.ntmps58
    go_wp2_with (go_at_call 72; refine (Tryd.stringslite_Index_one _ _ _).mono ?_; rintro e w' ⟨rfl, rfl⟩; rw [HI.out])
    go_quiet (fail)
    go_wp2
    go_ret3
    refine ⟨Eq.trans (b := Ending.returned (.tuple #[.string ((ByteArray.mk s.toArray).extract 0 n), .string ((ByteArray.mk s.toArray).extract (n + 1) s.length), .bool true])) rfl ?_, _, rfl⟩
    rw [ByteArray.extract_mk, ByteArray.extract_mk]
    have g := g2.out
    simp only [Int.toNat_natCast] at g
    rw [g]
    simp only [List.drop_zero, Nat.sub_zero]
    rw [List.take_of_length_le (i := s.length - (n + 1)) (by simp)]
theorem xcut_any (s : List UInt8) (c : UInt8) (w : World) (hs : s.length ≤ 140737488351232) :
    Calls Tryd.prog 43 #[.string ⟨s.toArray⟩, .string ⟨#[c]⟩] w fun e w' => e = .returned (.tuple #[.string ⟨(cutB c s).1.toArray⟩, .string ⟨(cutB c s).2.1.toArray⟩, .bool (cutB c s).2.2]) ∧ ∃ n, w' = w.drewN n := by
  go_enter Tryd.func43, Tryd.ntmps43
  go_wp2_with (go_at_call 58; refine (xcutS_any _ _ _ (by omega)).mono ?_; rintro e w' ⟨rfl, n, rfl⟩)
  go_ret3
  exact ⟨rfl, n, rfl⟩
end Go.Proofs.YtjpdadibeocpfaaDoor
