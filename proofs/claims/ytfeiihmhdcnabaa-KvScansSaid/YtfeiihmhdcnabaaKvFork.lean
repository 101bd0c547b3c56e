/-
  Fork, by the program; the methods on a nil map. No condition.
-/
import Derived.Test.YtfeiihmhdcnabaaKvLoad
namespace Go.Proofs.Ytfeiihmhdcnabaa
set_option linter.unusedVariables false
set_option linter.unusedSimpArgs false
open Go.RowKit Go.MapKept
theorem kvFork_any (g b : Nat) (E : Ats) (w : World) (h : KvS w g b E) :
    Calls Try.prog 24 #[.pointer (some ⟨g, 0, none⟩)] w fun e w' => ∃ g' b', e = .returned (.pointer (some ⟨g', 0, none⟩)) ∧ w.heap.size ≤ g' ∧ w.heap.size ≤ b' ∧ KvS w' g' b' E ∧ Below w.heap.size w w' := by
  obtain ⟨hok, hg, hm⟩ := h
  obtain ⟨hcell, hfz, hgs⟩ := obj_cells hg
  replace hcell := hcell 0
  simp at hcell
  have hcl := Lib.hid (AnyW.maps_Clone_owns Try.clone38 9 RM b E.length (kvD E) w hm)
  replace hok := Lib.hid hok
  clear hg hm
  go_enter Try.func24, Try.ntmps24
  go_wp2_with (go_at_call 38; refine hcl.out.mono ?_; rintro e w1 ⟨rfl, hm1, -, hb1⟩; replace hm1 := Lib.hid hm1; replace hb1 := Lib.hid hb1)
  go_ret
  exact ⟨_, w.heap.size, rfl, hb1.out.size, Nat.le_refl _, ⟨hok.out, al_newK _ _, KvM.keep hm1.out (grown_none (below1 _ _) none) (by simp)⟩, hb1.out.alloc hb1.out.size _⟩
theorem nilPut_any (a b : Value) (w : World) : Calls Try.prog 13 #[.pointer none, a, b] w fun e w' => e = .returned (.int .i64 1) ∧ Below w.heap.size w w' := by
  go_enter Try.func13, Try.ntmps13
  go_wp2
  go_ret
  exact ⟨rfl, Below.refl _ _⟩
theorem nilDelete_any (a : Value) (w : World) : Calls Try.prog 20 #[.pointer none, a] w fun e w' => e = .returned (.int .i64 1) ∧ Below w.heap.size w w' := by
  go_enter Try.func20, Try.ntmps20
  go_wp2
  go_ret
  exact ⟨rfl, Below.refl _ _⟩
theorem nilGet_any (a : Value) (w : World) : Calls Try.prog 19 #[.pointer none, a] w fun e w' => e = .returned (.tuple #[.string ⟨#[]⟩, .bool false]) ∧ Below w.heap.size w w' := by
  go_enter Try.func19, Try.ntmps19
  go_wp2
  go_ret2
  exact ⟨rfl, Below.refl _ _⟩
theorem nilLen_any (w : World) : Calls Try.prog 15 #[.pointer none] w fun e w' => e = .returned (.int .i64 0) ∧ Below w.heap.size w w' := by
  go_enter Try.func15, Try.ntmps15
  go_wp2
  go_ret
  exact ⟨rfl, Below.refl _ _⟩
theorem nilFork_any (w : World) : Calls Try.prog 24 #[.pointer none] w fun e w' => e = .returned (.pointer none) ∧ Below w.heap.size w w' := by
  go_enter Try.func24, Try.ntmps24
  go_wp2
  go_ret
  exact ⟨rfl, Below.refl _ _⟩
end Go.Proofs.Ytfeiihmhdcnabaa
