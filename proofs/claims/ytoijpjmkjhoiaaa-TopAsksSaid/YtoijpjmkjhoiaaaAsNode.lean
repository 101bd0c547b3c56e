/-
  The nodes of TopAsks: what node.Right, Role, Sub, owner say of them. No condition but where their lists lie.
-/
import Derived.Test.YtoijpjmkjhoiaaaAsOwn
import Derived.Test.YtoijpjmkjhoiaaaAsDrop
import Derived.Test.YtoijpjmkjhoiaaaNdRightP
import Derived.Test.YtoijpjmkjhoiaaaFnRole
import Derived.Test.YtoijpjmkjhoiaaaNdAddr
namespace Go.Proofs.Ytoijpjmkjhoiaaa
set_option linter.unusedVariables false
set_option linter.unusedSimpArgs false
open Go.RowKit Go.MapKept Go.Shelf
/-- a node of these lists -/
def ndA (af : List (Tx × Nat)) (sb : List (Tx × Bool × Int)) : Nd := ⟨[110], false, 1, 3, af, sb, []⟩
abbrev NdV (av sv : Value) : Value := .agg #[.string ⟨#[110]⟩, .bool false, .int .u8 1, .int .i64 3, av, sv, .slice none 0 0, .string ⟨#[]⟩]
abbrev NdO (av sv : Value) : Obj := .cells #[.string ⟨#[110]⟩, .bool false, .int .u8 1, .int .i64 3, av, sv, .slice none 0 0, .string ⟨#[]⟩] 30
abbrev NdZ : Obj := .cells #[.string ⟨#[]⟩, .bool false, .int .u8 0, .int .i64 0, .slice none 0 0, .slice none 0 0, .slice none 0 0, .string ⟨#[]⟩] 30
def AfOk (af : List (Tx × Nat)) : Prop := af = [(oT, 5)] ∨ af = [(oT, 5), (sT, 1)]
def SbOk (sb : List (Tx × Bool × Int)) : Prop := sb = [] ∨ ∃ p, sb = [(sT, p, 0)]
/-- the node lies here -/
def NdAt (af : List (Tx × Nat)) (sb : List (Tx × Bool × Int)) (base : Nat) (w : World) (av sv : Value) : Prop :=
  AfOk af ∧ SbOk sb ∧ w.ownsRow base 25 2 av af.length (afC af) ∧ w.ownsRow base 46 3 sv sb.length (suC sb)
theorem NdAt.below {af : List (Tx × Nat)} {sb : List (Tx × Bool × Int)} {base : Nat} {w w' : World} {av sv : Value} (h : NdAt af sb base w av sv) (hb : Below w.heap.size w w') : NdAt af sb base w' av sv :=
  ⟨h.1, h.2.1, owns_kb h.2.2.1 hb, owns_kb h.2.2.2 hb⟩
theorem NdAt.shape {af : List (Tx × Nat)} {sb : List (Tx × Bool × Int)} {base : Nat} {w : World} {av sv : Value} (h : NdAt af sb base w av sv) : (∃ a c, av = .slice a af.length c) ∧ ∃ a c, sv = .slice a sb.length c := ⟨owns_vw h.2.2.1, owns_vw h.2.2.2⟩
theorem obj_below {W w' : World} {b : Nat} {o : Obj} (h : W.heap[b]? = some o) (hb : Below W.heap.size W w') : w'.heap[b]? = some o := (hb.block b (Array.getElem?_eq_some_iff.1 h).1).trans h
theorem nd8 {W : World} {b : Nat} {a0 a1 a2 a3 a4 a5 a6 a7 : Value} {t : TypeId} (h : W.heap[b]? = some (.cells #[a0, a1, a2, a3, a4, a5, a6, a7] t)) :
    W.cell? ⟨b, 0, none⟩ = some a0 ∧ W.cell? ⟨b, 1, none⟩ = some a1 ∧ W.cell? ⟨b, 2, none⟩ = some a2 ∧ W.cell? ⟨b, 3, none⟩ = some a3 ∧ W.cell? ⟨b, 4, none⟩ = some a4 ∧ W.cell? ⟨b, 5, none⟩ = some a5 ∧ W.cell? ⟨b, 6, none⟩ = some a6 ∧ W.cell? ⟨b, 7, none⟩ = some a7 ∧ (∀ o, W.frozen? ⟨b, o, none⟩ = false) ∧ b < W.heap.size := by
  obtain ⟨c, f, l⟩ := obj_cells h
  exact ⟨c 0, c 1, c 2, c 3, c 4, c 5, c 6, c 7, f, l⟩
theorem su3 {W : World} {b : Nat} {a0 a1 a2 : Value} {t : TypeId} (h : W.heap[b]? = some (.cells #[a0, a1, a2] t)) :
    W.cell? ⟨b, 0, none⟩ = some a0 ∧ W.cell? ⟨b, 1, none⟩ = some a1 ∧ W.cell? ⟨b, 2, none⟩ = some a2 ∧ (∀ o, W.frozen? ⟨b, o, none⟩ = false) ∧ b < W.heap.size := by
  obtain ⟨c, f, l⟩ := obj_cells h
  exact ⟨c 0, c 1, c 2, f, l⟩
theorem rises1 {α : Type} (a : Tx) (x : α) (h : addrP a = true ∧ a.length ≤ 140737488351232) : risesP [(a, x)] := by
  refine ⟨fun j hj => ?_, fun j hj => absurd hj (by simp)⟩
  obtain rfl : j = 0 := by simpa using hj
  exact h
theorem rises2 {α : Type} (a b : Tx) (x y : α) (h : addrP a = true ∧ a.length ≤ 140737488351232) (h2 : addrP b = true ∧ b.length ≤ 140737488351232) (hl : a < b) : risesP [(a, x), (b, y)] := by
  refine ⟨fun j hj => ?_, fun j hj => ?_⟩
  · have : j = 0 ∨ j = 1 := by simp at hj; omega
    rcases this with rfl | rfl
    · exact h
    · exact h2
  · obtain rfl : j = 0 := by simp at hj; omega
    exact hl
section
variable {af : List (Tx × Nat)} {sb : List (Tx × Bool × Int)} {base : Nat} {w : World} {av sv : Value}
theorem af_len (h : AfOk af) : af.length ≤ 2 := by rcases h with rfl | rfl <;> decide
theorem sb_len (h : SbOk sb) : sb.length ≤ 1 := by rcases h with rfl | ⟨p, rfl⟩ <;> simp
set_option maxRecDepth 100000 in
theorem rightT_any (h : NdAt af sb base w av sv) : Calls Try.prog 9 #[NdV av sv] w fun e w' => e = .returned (.bool true) ∧ Below w.heap.size w w' := by
  obtain ⟨hA, hS, h1, h2⟩ := h
  have hAf := owns_afs h1
  have hSu := owns_sus h2
  obtain ⟨a, c, rfl⟩ := owns_vw h1
  obtain ⟨a', c', rfl⟩ := owns_vw h2
  have hal := af_len hA
  have hsl := sb_len hS
  refine rightP_any [110] 1 3 a a' af.length c sb.length c' af sb w hAf hSu (by decide +kernel) (by decide) (by decide) (by decide) (by omega) (by omega) ?_ ?_ ?_ ?_ ?_
  · rcases hA with rfl | rfl
    · exact rises1 oT 5 (by decide +kernel)
    · exact rises2 oT sT 5 1 (by decide +kernel) (by decide +kernel) (by decide)
  · rcases hS with rfl | ⟨p, rfl⟩
    · exact ⟨fun j h => absurd h (by simp), fun j h => absurd h (by simp)⟩
    · exact rises1 sT (p, 0) (by decide +kernel)
  · rcases hA with rfl | rfl <;> decide
  · rcases hA with rfl | rfl <;> exact ⟨(oT, 5), by simp, rfl⟩
  · rcases hS with rfl | ⟨p, rfl⟩
    · intro s hs; cases hs
    · intro s hs; simp at hs; subst hs; exact ⟨(by decide : (0 : Int) ≤ 0), (by decide : (0 : Int) ≤ 255)⟩
set_option maxRecDepth 100000 in
theorem roleT_any (h : NdAt af sb base w av sv) (s : Tx) : Calls Try.prog 12 #[NdV av sv, .string ⟨s.toArray⟩] w fun e w' => e = .returned (.int .u8 (roleN (ndA af sb) s)) ∧ Below w.heap.size w w' := by
  have := af_len h.1
  exact role_any (ndA af sb) av sv (.slice none 0 0) s w (owns_afs h.2.2.1) (by show af.length ≤ 1000; omega)
set_option maxRecDepth 100000 in
theorem subT_any (h : NdAt af sb base w av sv) (s : Tx) : Calls Try.prog 13 #[NdV av sv, .string ⟨s.toArray⟩] w fun e w' => (∃ x, e = .returned (.tuple #[.agg #[.string ⟨(x : Tx × Bool × Int).1.toArray⟩, .bool x.2.1, .int .i64 x.2.2], .bool (subN (ndA af sb) s).isSome]) ∧ ∀ y, subN (ndA af sb) s = some y → x = y) ∧ Below w.heap.size w w' := by
  have := sb_len h.2.1
  exact sub_any (ndA af sb) av sv (.slice none 0 0) s w (owns_sus h.2.2.2) (by show sb.length ≤ 1000; omega)
set_option maxRecDepth 100000 in
theorem ownerT_any (h : NdAt af sb base w av sv) (s : Tx) : Calls Try.prog 17 #[NdV av sv, .string ⟨s.toArray⟩] w fun e w' => e = .returned (.int .i64 (if roleN (ndA af sb) s = 5 then 0 else 3)) ∧ Below w.heap.size w w' := by
  obtain ⟨⟨a, c, rfl⟩, ⟨a', c', rfl⟩⟩ := h.shape
  exact owner_any (ndA af sb) a a' none af.length c sb.length c' 0 0 s _ w (fun W hW => rightT_any (h.below hW)) (fun W hW => roleT_any (h.below hW) s)
end
end Go.Proofs.Ytoijpjmkjhoiaaa
