/-
  Copies of a node's lists (slices.Clone), by the program. Condition: at most two of each; no items.
-/
import Derived.Test.YtoijpjmkjhoiaaaTtSub
import Derived.Test.YtoijpjmkjhoiaaaAsBase
namespace Go.Proofs.Ytoijpjmkjhoiaaa
set_option linter.unusedVariables false
set_option linter.unusedSimpArgs false
open Go.RowKit Go.MapKept Go.Shelf
theorem nilSu (n c : Nat) (w : World) : (binOp .eql 27 (.slice none n c) (.slice none 0 0)).run Try.prog w = .ok (.bool true) w := by kernel_rfl
theorem someSu (ad : Addr) (n c : Nat) (w : World) : (binOp .eql 27 (.slice (some ad) n c) (.slice none 0 0)).run Try.prog w = .ok (.bool false) w := by kernel_rfl
theorem nilIt (n c : Nat) (w : World) : (binOp .eql 28 (.slice none n c) (.slice none 0 0)).run Try.prog w = .ok (.bool true) w := by kernel_rfl
theorem someIt (ad : Addr) (n c : Nat) (w : World) : (binOp .eql 28 (.slice (some ad) n c) (.slice none 0 0)).run Try.prog w = .ok (.bool false) w := by kernel_rfl
theorem nilAf (n c : Nat) (w : World) : (binOp .eql 26 (.slice none n c) (.slice none 0 0)).run Try.prog w = .ok (.bool true) w := by kernel_rfl
theorem someAf (ad : Addr) (n c : Nat) (w : World) : (binOp .eql 26 (.slice (some ad) n c) (.slice none 0 0)).run Try.prog w = .ok (.bool false) w := by kernel_rfl
set_option maxHeartbeats 2000000 in
theorem cloneSub_any (v : Value) (l : List (Tx × Bool × Int)) (w : World) (hS : SuH w v l) (hl : l.length ≤ 2) :
    Calls Try.prog 39 #[v] w fun e w' => ∃ v', e = .returned v' ∧ w'.ownsRow w.heap.size 46 3 v' l.length (suC l) ∧ Below w.heap.size w w' := by
  obtain ⟨va, wa, hra, hOa, hBa⟩ := sub_copy w v l hS hl
  rcases hS with ⟨rfl, rfl⟩ | ⟨b, cs, c, rfl, h0, -⟩
  · clear hra hOa hBa
    have hn := nilSu
    go_enter Try.func39, Try.ntmps39
    go_wp2
    go_ret
    exact ⟨_, rfl, World.ownsRow_nil _ _ _ _, Below.refl _ _⟩
  · have hn := someSu
    replace hra := Lib.hid hra
    replace hOa := Lib.hid hOa
    replace hBa := Lib.hid hBa
    generalize l.length = N at *
    go_enter Try.func39, Try.ntmps39
    go_wp2_with (at_builtin; refine wpList_append_rux _ wa rfl _ _ 27 rfl _ _ _ rfl rfl hra.out ?_)
    go_ret
    exact ⟨_, rfl, hOa.out, hBa.out⟩
theorem cloneItem_any (w : World) : Calls Try.prog 40 #[.slice none 0 0] w fun e w' => e = .returned (.slice none 0 0) ∧ w' = w := by
  have hn := nilIt
  go_enter Try.func40, Try.ntmps40
  go_wp2
  go_ret
  exact ⟨rfl, rfl⟩
end Go.Proofs.Ytoijpjmkjhoiaaa
