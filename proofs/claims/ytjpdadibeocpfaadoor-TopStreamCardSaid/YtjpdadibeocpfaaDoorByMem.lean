/-
  A slice of bytes in memory. No condition.
-/
import Derived.Test.YtjpdadibeocpfaaDoorBase
import Derived.Test.YtjpdadibeocpfaaDoorProg
namespace Go.Proofs.YtjpdadibeocpfaaDoor
set_option linter.unusedVariables false
set_option linter.unusedSimpArgs false
open Go.RowKit Go.MapKept
/-- a slice of bytes -/
def BySl (w : World) (v : Value) (l : List UInt8) : Prop :=
  ∃ ptr cap, v = .slice ptr l.length cap ∧ l.length ≤ cap ∧ cap ≤ maxLen ∧ (0 < l.length → ∃ b o, ptr = some ⟨b, o, none⟩ ∧ b < w.heap.size ∧ ∀ i (h : i < l.length), w.cell? ⟨b, o + i, none⟩ = some (.int .u8 ((l[i]'h).toNat : Int)))
theorem BySl.below {w w' : World} {v : Value} {l : List UInt8} (h : BySl w v l) (hb : Below w.heap.size w w') : BySl w' v l := by
  obtain ⟨p, c, h1, h2, h3, h4⟩ := h
  refine ⟨p, c, h1, h2, h3, fun h0 => ?_⟩
  obtain ⟨b, o, e, hbl, hc⟩ := h4 h0
  exact ⟨b, o, e, Nat.lt_of_lt_of_le hbl hb.size, fun i hi => (hb.cell (p := ⟨b, o + i, none⟩) hbl).trans (hc i hi)⟩
end Go.Proofs.YtjpdadibeocpfaaDoor
