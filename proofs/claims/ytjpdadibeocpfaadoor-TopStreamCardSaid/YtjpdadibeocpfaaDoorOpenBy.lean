/-
  How the statements' bytes are read: where they lie. Printed by wip/tools/genkvloads.py.
-/
import Derived.Test.YtjpdadibeocpfaaDoorOpen
import Derived.Test.YtjpdadibeocpfaaDoorByMem
import Derived.Deep.SlicePairs
namespace Go.Proofs.YtjpdadibeocpfaaDoor
set_option linter.unusedVariables false
set_option linter.unusedSimpArgs false
open Go.ChangeShapes Go.WideShapes Go.ChangeAt Go.RowKit Go.Joins Go.Deep
set_option linter.unusedVariables false
theorem lit_u8 {a : Int} (h : (Lit.int .u8 a).wf = true) : ∃ n : UInt8, a = n.toNat := by
  have hw : 0 ≤ a ∧ a < 256 := by
    simp [Lit.wf, IntKind.min, IntKind.max, IntKind.wrap, IntKind.bits, IntKind.signed] at h
    omega
  exact ⟨UInt8.ofNat a.toNat, by simp; omega⟩

theorem cell_none {w : World} {a : Addr} {u : Value} (h : w.cell? a = some u) : a.spot = none ∧ a.block < w.heap.size := by
  obtain ⟨b, o, s⟩ := a
  cases s with
  | none =>
    refine ⟨rfl, ?_⟩
    rcases Nat.lt_or_ge b w.heap.size with h' | h'
    · exact h'
    · simp [World.cell?, Array.getElem?_eq_none h'] at h
  | some x =>
    simp only [World.cell?] at h
    split at h <;> cases h
section
variable {H : Type} {enc : TypeId × Value → H} {W : World} {base b0 : Nat} {spare : Nat → Bool} {held : Bool} {r : Reach}
theorem sU : Tryd.prog.underlying 22 = some (.slice 5) := by kernel_rfl
theorem cU : Tryd.prog.cellsOf 5 = 1 := by kernel_rfl
theorem bys_of {fuel : Nat} {v : Value} {x : DataW H × List MemPlace} (h : DataW.trod enc Tryd.prog W base spare held fuel 22 [v] = some x) : ∃ l, BySl W v l := by
  rcases open_slice1 sU cU h with ⟨hv, rfl⟩ | ⟨a, len, cap, m, n, V, D, Pl, hv, hb, hl, hm, hmm, rfl, hx⟩
  · obtain rfl : v = .slice none 0 0 := by simpa using hv
    exact ⟨[], ⟨none, 0, rfl, Nat.le_refl _, Nat.zero_le _, fun h => absurd h (by simp)⟩⟩
  · obtain rfl : v = .slice (some a) len cap := by simpa using hv
    have hlm : len ≤ m := by rw [hmm]; split <;> omega
    have each : ∀ i, i < len → ∃ q : UInt8, W.cell? (a.add i) = some (.int .u8 q.toNat) := fun i hi => by
      obtain ⟨h1, h2⟩ := hx i (by omega)
      obtain ⟨c0, q0, -, w0⟩ := DataW.trod_int Tryd.underlying5 h2
      obtain ⟨x, rfl⟩ := lit_u8 w0
      simp at q0
      rw [q0] at h1
      exact ⟨x, h1⟩
    obtain ⟨q, hq⟩ := choose_lt each
    refine ⟨(List.range len).map q, ⟨some a, cap, by simp, by simpa using hl, hm, fun h0 => ?_⟩⟩
    have h0' : 0 < len := by simpa using h0
    have c0 := hq 0 (by omega)
    obtain ⟨hsp, hbl⟩ := cell_none c0
    obtain ⟨b, o, s⟩ := a
    simp [Addr.add] at hsp hbl
    subst hsp
    refine ⟨b, o, rfl, hbl, fun i hi => ?_⟩
    have hi' : i < len := by simpa using hi
    have e0 := hq i hi'
    rw [Addr.add_lit] at e0
    rw [List.getElem_map, List.getElem_range, e0]
set_option maxRecDepth 100000 in
theorem openBy {v : Value} {d : DataW H} {p : List MemPlace} (hv : Value.okWide Tryd.prog W r b0 22 v) (h : DataW.Trod enc Tryd.prog W base spare held 22 v d p) : ∃ l, BySl W v l := by
  obtain ⟨a0, len, cap, rfl⟩ := okWide_slice sU hv
  obtain ⟨fuel, hf⟩ := h
  exact bys_of (x := (d, p)) (by simpa [Value.cells] using hf)
end
end Go.Proofs.YtjpdadibeocpfaaDoor
