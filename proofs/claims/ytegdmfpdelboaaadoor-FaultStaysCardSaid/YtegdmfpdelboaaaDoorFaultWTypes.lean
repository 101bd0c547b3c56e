/-
  The walk of the law FaultTypes. Condition: errorType is laid.
-/
import Derived.Test.YtegdmfpdelboaaaDoorFaultLive
import Derived.Test.YtegdmfpdelboaaaDoorFaultRef
namespace Go.Proofs.YtegdmfpdelboaaaDoor
set_option linter.unusedVariables false
set_option linter.unusedSimpArgs false
open Go.RowKit
attribute [local go_sem] mk_get
theorem name_letters {c : Int} (h : knownB c = true) : nameL c ≠ [] ∧ (nameL c).length < 100 ∧ ∀ k (h : k < (nameL c).length), (nameL c)[k].toNat = 45 ∨ (97 ≤ (nameL c)[k].toNat ∧ (nameL c)[k].toNat ≤ 122) := by
  obtain rfl | rfl | rfl | rfl | rfl | rfl | rfl | rfl | rfl | rfl := known_cases h <;> decide
theorem type_four {c : Int} (h : knownB c = true) : typeL c = [97, 117, 116, 104] ∨ typeL c = [99, 97, 110, 99, 101, 108] ∨ typeL c = [109, 111, 100, 105, 102, 121] ∨ typeL c = [119, 97, 105, 116] := by
  obtain rfl | rfl | rfl | rfl | rfl | rfl | rfl | rfl | rfl | rfl := known_cases h <;> decide
theorem faultTypes_walk (c : Int) (w : World) (hg : G0 w) :
    Calls Tryd.prog 3 #[.int .i64 c] w fun e w' => e = .returned (.bool true) ∧ Below w.heap.size w w' := by
  cases hk : knownB c
  · go_enter Tryd.func3, Tryd.ntmps3
    go_wp2_with (first
      | (go_at_call 9; refine (type_any _ _).mono ?_; rintro e w1 ⟨rfl, hb1⟩; rw [typeL_un hk])
      | (go_at_call 10; refine (name_any _ _).mono ?_; rintro e w2 ⟨rfl, hb2⟩; rw [nameL_un hk])
      | (go_at_call 11; refine (live_any _ (hg.below (belowT hb1 hb2))).mono ?_; rintro e w3 ⟨rfl, hb3⟩)
      | (go_at_call 12; refine (name0_any _ _).mono ?_; rintro e w4 ⟨rfl, rfl⟩; rw [nameL_un hk]))
    go_ret
    exact ⟨rfl, belowT (belowT hb1 hb2) hb3⟩
  · obtain ⟨hne, hlen, hall⟩ := name_letters hk
    have hty := type_four hk
    revert hty
    generalize hs : nameL c = s at *
    generalize ht : typeL c = t
    intro hty
    have hb : (s == []) = false := by simp [hne]
    obtain rfl | rfl | rfl | rfl := hty
    · go_enter Tryd.func3, Tryd.ntmps3
      go_wp2_with (first
        | (go_at_call 9; refine (type_any _ _).mono ?_; rintro e w1 ⟨rfl, hb1⟩; rw [ht])
        | (go_at_call 10; refine (name_any _ _).mono ?_; rintro e w2 ⟨rfl, hb2⟩; rw [hs]))
      have hL := Lib.hid (live_any _ (hg.below (belowT hb1 hb2)))
      go_loopw [5] (fun i wr => ∃ k : Nat, k ≤ s.length ∧ i = .int .i64 k ∧ w2 = wr) (fun i _ => 101 - (intOf i).toNat)
      case atStart => exact ⟨0, by omega, rfl, rfl⟩
      case round =>
        obtain ⟨k, hk', rfl, rfl⟩ := hrel
        by_cases hlt : k < s.length
        · have HX := hall k hlt
          go_wp2
          all_goals first
            | (go_roundw
               case rel => exact ⟨k + 1, by omega, by go_num, trivial⟩
               case measure => simp [intOf]; omega)
            | (exfalso; simp at *; omega)
        · go_wp2_with (go_at_call 11; refine hL.out.mono ?_; rintro e w3 ⟨rfl, hb3⟩)
          go_ret
          exact ⟨rfl, belowT (belowT hb1 hb2) hb3⟩
    · go_enter Tryd.func3, Tryd.ntmps3
      go_wp2_with (first
        | (go_at_call 9; refine (type_any _ _).mono ?_; rintro e w1 ⟨rfl, hb1⟩; rw [ht])
        | (go_at_call 10; refine (name_any _ _).mono ?_; rintro e w2 ⟨rfl, hb2⟩; rw [hs]))
      have hL := Lib.hid (live_any _ (hg.below (belowT hb1 hb2)))
      go_loopw [5] (fun i wr => ∃ k : Nat, k ≤ s.length ∧ i = .int .i64 k ∧ w2 = wr) (fun i _ => 101 - (intOf i).toNat)
      case atStart => exact ⟨0, by omega, rfl, rfl⟩
      case round =>
        obtain ⟨k, hk', rfl, rfl⟩ := hrel
        by_cases hlt : k < s.length
        · have HX := hall k hlt
          go_wp2
          all_goals first
            | (go_roundw
               case rel => exact ⟨k + 1, by omega, by go_num, trivial⟩
               case measure => simp [intOf]; omega)
            | (exfalso; simp at *; omega)
        · go_wp2_with (go_at_call 11; refine hL.out.mono ?_; rintro e w3 ⟨rfl, hb3⟩)
          go_ret
          exact ⟨rfl, belowT (belowT hb1 hb2) hb3⟩
    · go_enter Tryd.func3, Tryd.ntmps3
      go_wp2_with (first
        | (go_at_call 9; refine (type_any _ _).mono ?_; rintro e w1 ⟨rfl, hb1⟩; rw [ht])
        | (go_at_call 10; refine (name_any _ _).mono ?_; rintro e w2 ⟨rfl, hb2⟩; rw [hs]))
      have hL := Lib.hid (live_any _ (hg.below (belowT hb1 hb2)))
      go_loopw [5] (fun i wr => ∃ k : Nat, k ≤ s.length ∧ i = .int .i64 k ∧ w2 = wr) (fun i _ => 101 - (intOf i).toNat)
      case atStart => exact ⟨0, by omega, rfl, rfl⟩
      case round =>
        obtain ⟨k, hk', rfl, rfl⟩ := hrel
        by_cases hlt : k < s.length
        · have HX := hall k hlt
          go_wp2
          all_goals first
            | (go_roundw
               case rel => exact ⟨k + 1, by omega, by go_num, trivial⟩
               case measure => simp [intOf]; omega)
            | (exfalso; simp at *; omega)
        · go_wp2_with (go_at_call 11; refine hL.out.mono ?_; rintro e w3 ⟨rfl, hb3⟩)
          go_ret
          exact ⟨rfl, belowT (belowT hb1 hb2) hb3⟩
    · go_enter Tryd.func3, Tryd.ntmps3
      go_wp2_with (first
        | (go_at_call 9; refine (type_any _ _).mono ?_; rintro e w1 ⟨rfl, hb1⟩; rw [ht])
        | (go_at_call 10; refine (name_any _ _).mono ?_; rintro e w2 ⟨rfl, hb2⟩; rw [hs]))
      have hL := Lib.hid (live_any _ (hg.below (belowT hb1 hb2)))
      go_loopw [5] (fun i wr => ∃ k : Nat, k ≤ s.length ∧ i = .int .i64 k ∧ w2 = wr) (fun i _ => 101 - (intOf i).toNat)
      case atStart => exact ⟨0, by omega, rfl, rfl⟩
      case round =>
        obtain ⟨k, hk', rfl, rfl⟩ := hrel
        by_cases hlt : k < s.length
        · have HX := hall k hlt
          go_wp2
          all_goals first
            | (go_roundw
               case rel => exact ⟨k + 1, by omega, by go_num, trivial⟩
               case measure => simp [intOf]; omega)
            | (exfalso; simp at *; omega)
        · go_wp2_with (go_at_call 11; refine hL.out.mono ?_; rintro e w3 ⟨rfl, hb3⟩)
          go_ret
          exact ⟨rfl, belowT (belowT hb1 hb2) hb3⟩
end Go.Proofs.YtegdmfpdelboaaaDoor
