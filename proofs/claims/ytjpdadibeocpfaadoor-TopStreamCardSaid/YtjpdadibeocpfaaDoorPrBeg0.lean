/-
  What begin's own calls compute on a printed start tag's inside (strings.CutSuffix, xml.space, xml.name). Conditions: a right name; within the reach.
-/
import Derived.Test.YtjpdadibeocpfaaDoorPrBegP
import Derived.Test.YtjpdadibeocpfaaDoorPrTag
namespace Go.Proofs.YtjpdadibeocpfaaDoor
set_option linter.unusedVariables false
set_option linter.unusedSimpArgs false
open Go.RowKit Go.MapKept Go.Proofs
theorem cutsuf_no (n : List UInt8) (al : Ats) (W : World) (hn : nameP n = true) (hs : (n ++ atsL al).length ≤ 140737488351232) :
    Calls Tryd.prog 67 #[.string ⟨(n ++ atsL al).toArray⟩, .string ⟨#[47]⟩] W fun e w' => e = .returned (.tuple #[.string ⟨(n ++ atsL al).toArray⟩, .bool false]) ∧ W = w' := by
  have hp := no_slash (n := n) (al := al) hn
  refine (Tryd.strings_CutSuffix ⟨(n ++ atsL al).toArray⟩ ⟨#[47]⟩ W (by simp only [ByteArray.size, List.size_toArray]; omega)).mono ?_
  rintro e w' ⟨rfl, h⟩
  refine ⟨ret_strb ?_ hp, h.symm⟩
  show Lib.trimSuffix (n ++ atsL al) [47] = n ++ atsL al
  unfold Lib.trimSuffix
  rw [hp]; rfl
theorem cutsuf_yes (s T : List UInt8) (W : World) (hT : T = s ++ [47]) (hs : T.length ≤ 140737488351232) :
    Calls Tryd.prog 67 #[.string ⟨T.toArray⟩, .string ⟨#[47]⟩] W fun e w' => e = .returned (.tuple #[.string ⟨s.toArray⟩, .bool true]) ∧ W = w' := by
  have hp : Lib.hasSuffix T [47] = true := by
    unfold Lib.hasSuffix
    rw [hT]
    exact List.isSuffixOf_iff_suffix.2 ⟨s, rfl⟩
  have ht : Lib.trimSuffix T [47] = s := by
    unfold Lib.trimSuffix
    rw [hp, hT]
    simp
  clear hT
  refine (Tryd.strings_CutSuffix ⟨T.toArray⟩ ⟨#[47]⟩ W (by simp only [ByteArray.size, List.size_toArray]; omega)).mono ?_
  rintro e w' ⟨rfl, h⟩
  exact ⟨ret_strb ht hp, h.symm⟩
theorem space_1 (c : UInt8) (r : List UInt8) (hc : blC c = false) (W : World) (hs : (32 :: c :: r).length ≤ 140737488351232) :
    Calls Tryd.prog 51 #[.string ⟨(32 :: c :: r).toArray⟩] W fun e w' => e = .returned (.int .i64 1) ∧ Below W.heap.size W w' := by
  refine (space_any (32 :: c :: r) W hs).mono ?_
  rintro e w' ⟨rfl, hb⟩
  have h : Lib.trimLeftS (32 :: c :: r) [32, 9, 10, 13] = c :: r := by
    unfold Lib.trimLeftS
    rw [List.dropWhile_cons_of_pos (by decide), List.dropWhile_cons_of_neg]
    intro h
    unfold blC at hc
    rw [decide_eq_false_iff_not] at hc
    simp at h
    exact hc (by omega)
  rw [h]
  exact ⟨ret_int (by simp only [List.length_cons]; omega), hb⟩
theorem space_nil (W : World) : Calls Tryd.prog 51 #[.string ⟨#[]⟩] W fun e w' => e = .returned (.int .i64 0) ∧ Below W.heap.size W w' := by
  refine (space_any [] W (by simp)).mono ?_
  rintro e w' ⟨rfl, hb⟩
  exact ⟨rfl, hb⟩
/-- the name at a start tag's head -/
theorem xname_ats (n : List UInt8) (al : Ats) (W : World) (hn : nameP n = true) (hs : (n ++ atsL al).length ≤ 140737488351232) :
    Calls Tryd.prog 53 #[.string ⟨(n ++ atsL al).toArray⟩] W fun e w' => e = .returned (.tuple #[.string ⟨n.toArray⟩, .string ⟨(atsL al).toArray⟩]) ∧ ∃ k, w' = W.drewN k := by
  cases al with
  | nil =>
    rw [show atsL [] = [] from rfl, List.append_nil]
    exact xname_all n W hn
  | cons p al =>
    have e : atsL (p :: al) = 32 :: (p.1 ++ 61 :: 39 :: (escL p.2 ++ 39 :: atsL al)) := by
      unfold atsL
      rw [List.flatMap_cons]
      simp [atP]
    rw [e] at hs ⊢
    exact xname_at n 32 _ W hn (by decide) hs
end Go.Proofs.YtjpdadibeocpfaaDoor
