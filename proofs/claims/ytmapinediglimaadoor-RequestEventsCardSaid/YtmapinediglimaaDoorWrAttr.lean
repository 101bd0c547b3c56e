/-
  A token's attribute by its name: write.Attr (slices.IndexFunc with a closure), and the reference's.
-/
import Derived.Test.YtmapinediglimaaDoorWrElem
import Derived.Deep.LoopGhost
import Derived.Shelf.Abstract
import Derived.Test.YtmapinediglimaaDoorBase
namespace Go.Proofs.YtmapinediglimaaDoor
set_option linter.unusedVariables false
set_option linter.unusedSimpArgs false
open Go.RowKit Go.MapKept Go.Shelf
def attrR (name : List UInt8) (al : Ats) : Option (List UInt8) := (al.find? (fun p => p.1 == name)).map (·.2)
def attrV (name : List UInt8) (al : Ats) : Value := match attrR name al with
  | some v => .tuple #[.string ⟨v.toArray⟩, .bool true]
  | none => .tuple #[.string ⟨#[]⟩, .bool false]
theorem attr_split (name : List UInt8) : ∀ al : Ats, (∃ k, ∃ h : k < al.length, (al[k]'h).1 = name ∧ (∀ i (hi : i < k), (al[i]'(Nat.lt_trans hi h)).1 ≠ name) ∧ attrR name al = some (al[k]'h).2) ∨ ((∀ i (hi : i < al.length), (al[i]'hi).1 ≠ name) ∧ attrR name al = none)
  | [] => .inr ⟨fun i hi => absurd hi (by simp), rfl⟩
  | p :: al => by
    by_cases hp : p.1 = name
    · exact .inl ⟨0, by simp, hp, fun i hi => absurd hi (by omega), by unfold attrR; rw [List.find?_cons_of_pos (by simpa using hp)]; rfl⟩
    · have e : attrR name (p :: al) = attrR name al := by unfold attrR; rw [List.find?_cons_of_neg (by simpa using hp)]
      rcases attr_split name al with ⟨k, h, h1, h2, h3⟩ | ⟨h1, h2⟩
      · refine .inl ⟨k + 1, by simpa using h, h1, fun i hi => ?_, e.trans h3⟩
        cases i with
        | zero => exact hp
        | succ i => exact h2 i (by omega)
      · refine .inr ⟨fun i hi => ?_, e.trans h2⟩
        cases i with
        | zero => exact hp
        | succ i => exact h1 i (by simpa using hi)
end Go.Proofs.YtmapinediglimaaDoor
