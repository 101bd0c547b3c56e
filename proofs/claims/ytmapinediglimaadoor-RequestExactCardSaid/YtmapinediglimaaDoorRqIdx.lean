/-
  The place of a name in a table (slices.Index), as the requests' numbers. No condition.
-/
import Derived.Test.YtmapinediglimaaDoorRqNum
namespace Go.Proofs.YtmapinediglimaaDoor
set_option linter.unusedVariables false
set_option linter.unusedSimpArgs false
open Go.RowKit Go.MapKept
theorem iteLe {c : Prop} [Decidable c] {a b n : Nat} (ha : a ≤ n) (hb : b ≤ n) : (if c then a else b) ≤ n := by split <;> assumption
theorem ba_eq (a s : List UInt8) : ((ByteArray.mk a.toArray) = (ByteArray.mk s.toArray)) = (s = a) := by
  apply propext
  constructor
  · intro h
    injection h with h
    have := congrArg Array.toList h
    simpa using this.symm
  · rintro rfl
    rfl
theorem idx_verbs (s : List UInt8) : max (Lib.idxOfS [⟨#[]⟩, ⟨#[99, 114, 101, 97, 116, 101]⟩, ⟨#[114, 101, 109, 111, 118, 101]⟩, ⟨#[99, 111, 110, 102, 105, 103, 117, 114, 101]⟩, ⟨#[115, 117, 98, 115, 99, 114, 105, 98, 101]⟩, ⟨#[117, 110, 115, 117, 98, 115, 99, 114, 105, 98, 101]⟩, ⟨#[97, 112, 112, 114, 111, 118, 101]⟩, ⟨#[100, 101, 110, 121]⟩, ⟨#[97, 102, 102, 105, 108, 105, 97, 116, 101]⟩, ⟨#[112, 117, 98, 108, 105, 115, 104]⟩, ⟨#[114, 101, 116, 114, 97, 99, 116]⟩, ⟨#[112, 117, 114, 103, 101]⟩, ⟨#[105, 116, 101, 109, 115]⟩, ⟨#[97, 115, 115, 111, 99, 105, 97, 116, 101]⟩, ⟨#[100, 105, 115, 115, 111, 99, 105, 97, 116, 101]⟩, ⟨#[110, 111, 100, 101, 115]⟩] ⟨s.toArray⟩) 0 = (verbN s : Int) := by
  by_cases h0 : s = []
  · subst h0; decide +kernel
  by_cases h1 : s = [99, 114, 101, 97, 116, 101]
  · subst h1; decide +kernel
  by_cases h2 : s = [114, 101, 109, 111, 118, 101]
  · subst h2; decide +kernel
  by_cases h3 : s = [99, 111, 110, 102, 105, 103, 117, 114, 101]
  · subst h3; decide +kernel
  by_cases h4 : s = [115, 117, 98, 115, 99, 114, 105, 98, 101]
  · subst h4; decide +kernel
  by_cases h5 : s = [117, 110, 115, 117, 98, 115, 99, 114, 105, 98, 101]
  · subst h5; decide +kernel
  by_cases h6 : s = [97, 112, 112, 114, 111, 118, 101]
  · subst h6; decide +kernel
  by_cases h7 : s = [100, 101, 110, 121]
  · subst h7; decide +kernel
  by_cases h8 : s = [97, 102, 102, 105, 108, 105, 97, 116, 101]
  · subst h8; decide +kernel
  by_cases h9 : s = [112, 117, 98, 108, 105, 115, 104]
  · subst h9; decide +kernel
  by_cases h10 : s = [114, 101, 116, 114, 97, 99, 116]
  · subst h10; decide +kernel
  by_cases h11 : s = [112, 117, 114, 103, 101]
  · subst h11; decide +kernel
  by_cases h12 : s = [105, 116, 101, 109, 115]
  · subst h12; decide +kernel
  by_cases h13 : s = [97, 115, 115, 111, 99, 105, 97, 116, 101]
  · subst h13; decide +kernel
  by_cases h14 : s = [100, 105, 115, 115, 111, 99, 105, 97, 116, 101]
  · subst h14; decide +kernel
  by_cases h15 : s = [110, 111, 100, 101, 115]
  · subst h15; decide +kernel
  simp only [Lib.idxOfS, Lib.idxFromS, ba_eq, verbN, h0, h1, h2, h3, h4, h5, h6, h7, h8, h9, h10, h11, h12, h13, h14, h15, if_false]
  decide
theorem index_verbs (g c : Nat) (s : List UInt8) (w : World) (h : w.heap[g]? = some (.cells #[.string ⟨#[]⟩, .string ⟨#[99, 114, 101, 97, 116, 101]⟩, .string ⟨#[114, 101, 109, 111, 118, 101]⟩, .string ⟨#[99, 111, 110, 102, 105, 103, 117, 114, 101]⟩, .string ⟨#[115, 117, 98, 115, 99, 114, 105, 98, 101]⟩, .string ⟨#[117, 110, 115, 117, 98, 115, 99, 114, 105, 98, 101]⟩, .string ⟨#[97, 112, 112, 114, 111, 118, 101]⟩, .string ⟨#[100, 101, 110, 121]⟩, .string ⟨#[97, 102, 102, 105, 108, 105, 97, 116, 101]⟩, .string ⟨#[112, 117, 98, 108, 105, 115, 104]⟩, .string ⟨#[114, 101, 116, 114, 97, 99, 116]⟩, .string ⟨#[112, 117, 114, 103, 101]⟩, .string ⟨#[105, 116, 101, 109, 115]⟩, .string ⟨#[97, 115, 115, 111, 99, 105, 97, 116, 101]⟩, .string ⟨#[100, 105, 115, 115, 111, 99, 105, 97, 116, 101]⟩, .string ⟨#[110, 111, 100, 101, 115]⟩] 62)) :
    Calls Tryd.prog 24 #[.slice (some ⟨g, 0, none⟩) 16 c, .string ⟨s.toArray⟩] w fun e w' => ∃ i : Int, e = .returned (.int .i64 i) ∧ max i 0 = (verbN s : Int) ∧ w = w' := by
  refine (Tryd.slices_Index_string g 0 16 c [⟨#[]⟩, ⟨#[99, 114, 101, 97, 116, 101]⟩, ⟨#[114, 101, 109, 111, 118, 101]⟩, ⟨#[99, 111, 110, 102, 105, 103, 117, 114, 101]⟩, ⟨#[115, 117, 98, 115, 99, 114, 105, 98, 101]⟩, ⟨#[117, 110, 115, 117, 98, 115, 99, 114, 105, 98, 101]⟩, ⟨#[97, 112, 112, 114, 111, 118, 101]⟩, ⟨#[100, 101, 110, 121]⟩, ⟨#[97, 102, 102, 105, 108, 105, 97, 116, 101]⟩, ⟨#[112, 117, 98, 108, 105, 115, 104]⟩, ⟨#[114, 101, 116, 114, 97, 99, 116]⟩, ⟨#[112, 117, 114, 103, 101]⟩, ⟨#[105, 116, 101, 109, 115]⟩, ⟨#[97, 115, 115, 111, 99, 105, 97, 116, 101]⟩, ⟨#[100, 105, 115, 115, 111, 99, 105, 97, 116, 101]⟩, ⟨#[110, 111, 100, 101, 115]⟩] ⟨s.toArray⟩ w (by simp) (by omega) ?_).mono ?_
  · intro j hj
    have hj2 : j < 16 := by simpa using hj
    rw [Nat.zero_add, (obj_cells h).1 j]
    obtain rfl | rfl | rfl | rfl | rfl | rfl | rfl | rfl | rfl | rfl | rfl | rfl | rfl | rfl | rfl | rfl : j = 0 ∨ j = 1 ∨ j = 2 ∨ j = 3 ∨ j = 4 ∨ j = 5 ∨ j = 6 ∨ j = 7 ∨ j = 8 ∨ j = 9 ∨ j = 10 ∨ j = 11 ∨ j = 12 ∨ j = 13 ∨ j = 14 ∨ j = 15 := by omega
    all_goals rfl
  · rintro e w1 ⟨rfl, rfl⟩
    exact ⟨_, rfl, idx_verbs s, rfl⟩
theorem verbN_le (s : List UInt8) : verbN s ≤ 15 := by
  unfold verbN
  iterate 15 (refine iteLe (by omega) ?_)
  omega
theorem idx_roles (s : List UInt8) : max (Lib.idxOfS [⟨#[]⟩, ⟨#[111, 117, 116, 99, 97, 115, 116]⟩, ⟨#[110, 111, 110, 101]⟩, ⟨#[109, 101, 109, 98, 101, 114]⟩, ⟨#[112, 117, 98, 108, 105, 115, 104, 101, 114]⟩, ⟨#[111, 119, 110, 101, 114]⟩] ⟨s.toArray⟩) 0 = (roleN s : Int) := by
  by_cases h0 : s = []
  · subst h0; decide +kernel
  by_cases h1 : s = [111, 117, 116, 99, 97, 115, 116]
  · subst h1; decide +kernel
  by_cases h2 : s = [110, 111, 110, 101]
  · subst h2; decide +kernel
  by_cases h3 : s = [109, 101, 109, 98, 101, 114]
  · subst h3; decide +kernel
  by_cases h4 : s = [112, 117, 98, 108, 105, 115, 104, 101, 114]
  · subst h4; decide +kernel
  by_cases h5 : s = [111, 119, 110, 101, 114]
  · subst h5; decide +kernel
  simp only [Lib.idxOfS, Lib.idxFromS, ba_eq, roleN, h0, h1, h2, h3, h4, h5, if_false]
  decide
theorem index_roles (g c : Nat) (s : List UInt8) (w : World) (h : w.heap[g]? = some (.cells #[.string ⟨#[]⟩, .string ⟨#[111, 117, 116, 99, 97, 115, 116]⟩, .string ⟨#[110, 111, 110, 101]⟩, .string ⟨#[109, 101, 109, 98, 101, 114]⟩, .string ⟨#[112, 117, 98, 108, 105, 115, 104, 101, 114]⟩, .string ⟨#[111, 119, 110, 101, 114]⟩] 57)) :
    Calls Tryd.prog 24 #[.slice (some ⟨g, 0, none⟩) 6 c, .string ⟨s.toArray⟩] w fun e w' => ∃ i : Int, e = .returned (.int .i64 i) ∧ max i 0 = (roleN s : Int) ∧ w = w' := by
  refine (Tryd.slices_Index_string g 0 6 c [⟨#[]⟩, ⟨#[111, 117, 116, 99, 97, 115, 116]⟩, ⟨#[110, 111, 110, 101]⟩, ⟨#[109, 101, 109, 98, 101, 114]⟩, ⟨#[112, 117, 98, 108, 105, 115, 104, 101, 114]⟩, ⟨#[111, 119, 110, 101, 114]⟩] ⟨s.toArray⟩ w (by simp) (by omega) ?_).mono ?_
  · intro j hj
    have hj2 : j < 6 := by simpa using hj
    rw [Nat.zero_add, (obj_cells h).1 j]
    obtain rfl | rfl | rfl | rfl | rfl | rfl : j = 0 ∨ j = 1 ∨ j = 2 ∨ j = 3 ∨ j = 4 ∨ j = 5 := by omega
    all_goals rfl
  · rintro e w1 ⟨rfl, rfl⟩
    exact ⟨_, rfl, idx_roles s, rfl⟩
theorem roleN_le (s : List UInt8) : roleN s ≤ 5 := by
  unfold roleN
  iterate 5 (refine iteLe (by omega) ?_)
  omega
theorem idx_acc (s : List UInt8) : max (Lib.idxOfS [⟨#[111, 112, 101, 110]⟩, ⟨#[97, 117, 116, 104, 111, 114, 105, 122, 101]⟩, ⟨#[119, 104, 105, 116, 101, 108, 105, 115, 116]⟩] ⟨s.toArray⟩) 0 = (accN s : Int) := by
  by_cases h0 : s = [111, 112, 101, 110]
  · subst h0; decide +kernel
  by_cases h1 : s = [97, 117, 116, 104, 111, 114, 105, 122, 101]
  · subst h1; decide +kernel
  by_cases h2 : s = [119, 104, 105, 116, 101, 108, 105, 115, 116]
  · subst h2; decide +kernel
  simp only [Lib.idxOfS, Lib.idxFromS, ba_eq, accN, h0, h1, h2, if_false]
  decide
theorem index_acc (g c : Nat) (s : List UInt8) (w : World) (h : w.heap[g]? = some (.cells #[.string ⟨#[111, 112, 101, 110]⟩, .string ⟨#[97, 117, 116, 104, 111, 114, 105, 122, 101]⟩, .string ⟨#[119, 104, 105, 116, 101, 108, 105, 115, 116]⟩] 54)) :
    Calls Tryd.prog 24 #[.slice (some ⟨g, 0, none⟩) 3 c, .string ⟨s.toArray⟩] w fun e w' => ∃ i : Int, e = .returned (.int .i64 i) ∧ max i 0 = (accN s : Int) ∧ w = w' := by
  refine (Tryd.slices_Index_string g 0 3 c [⟨#[111, 112, 101, 110]⟩, ⟨#[97, 117, 116, 104, 111, 114, 105, 122, 101]⟩, ⟨#[119, 104, 105, 116, 101, 108, 105, 115, 116]⟩] ⟨s.toArray⟩ w (by simp) (by omega) ?_).mono ?_
  · intro j hj
    have hj2 : j < 3 := by simpa using hj
    rw [Nat.zero_add, (obj_cells h).1 j]
    obtain rfl | rfl | rfl : j = 0 ∨ j = 1 ∨ j = 2 := by omega
    all_goals rfl
  · rintro e w1 ⟨rfl, rfl⟩
    exact ⟨_, rfl, idx_acc s, rfl⟩
theorem accN_le (s : List UInt8) : accN s ≤ 2 := by
  unfold accN
  iterate 2 (refine iteLe (by omega) ?_)
  omega
end Go.Proofs.YtmapinediglimaaDoor
