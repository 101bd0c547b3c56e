/-
  How the statements' pairs of bytes ([][2]uint8) are read.
-/
import Derived.Test.YtgodmppmiamhaaaOpenEd
import Derived.Test.YtgodmppmiamhaaaOpenArr
namespace Go.Proofs.Ytgodmppmiamhaaa
set_option linter.unusedVariables false
set_option linter.unusedSimpArgs false
open Go.ChangeShapes Go.WideShapes Go.ChangeAt Go.RowKit Go.Joins Go.Deep
open Go.WideMaps (ArrKey)
set_option linter.unusedVariables false
def PrS (w : World) (v : Value) (l : List (UInt8 × UInt8)) : Prop :=
  ∃ ptr cap, v = .slice ptr l.length cap ∧ l.length ≤ cap ∧ cap ≤ maxLen ∧ (0 < l.length → ∃ b o, ptr = some ⟨b, o, none⟩ ∧ b < w.heap.size ∧
    ∀ i (h : i < l.length), w.cell? ⟨b, o + i * 2, none⟩ = some (.int .u8 (l[i]'h).1.toNat) ∧ w.cell? ⟨b, o + i * 2 + 1, none⟩ = some (.int .u8 (l[i]'h).2.toNat))
section
variable {H : Type} {enc : TypeId × Value → H} {W : World} {base b0 : Nat} {spare : Nat → Bool} {held : Bool} {r : Reach}
theorem sPr : Try.prog.underlying 22 = some (.slice 24) := by kernel_rfl
theorem cPr : Try.prog.cellsOf 24 = 2 := by kernel_rfl
theorem aPr : ArrKey Try.prog 24 5 2 := ⟨Try.underlying24, by kernel_rfl, by kernel_rfl, by kernel_rfl⟩
set_option maxRecDepth 100000 in
theorem prs_of {fuel : Nat} {v : Value} {x : DataW H × List MemPlace} (h : DataW.trod enc Try.prog W base spare held fuel 22 [v] = some x) : ∃ al, PrS W v al := by
  have A := aPr
  rcases open_slice sPr h with ⟨hv, rfl⟩ | ⟨a, len, cap, m, n, D, Pl, hv, hb, hl, hm, hmm, rfl, hx⟩
  · obtain rfl : v = .slice none 0 0 := by simpa using hv
    exact ⟨[], ⟨none, 0, rfl, Nat.le_refl _, Nat.zero_le _, fun h => absurd h (by simp)⟩⟩
  · obtain rfl : v = .slice (some a) len cap := by simpa using hv
    have hlm : len ≤ m := by rw [hmm]; split <;> omega
    have each : ∀ i, i < len → ∃ q : UInt8 × UInt8, W.cell? (a.add (i * 2)) = some (.int .u8 q.1.toNat) ∧ W.cell? (a.add (i * 2 + 1)) = some (.int .u8 q.2.toNat) := fun i hi => by
      obtain ⟨cs, h1, h2⟩ := hx i (by omega)
      rw [cPr] at h1
      obtain ⟨_, hlen, hcell⟩ := World.cells?_some h1
      match cs, hlen with
      | [v0, v1], _ =>
        have e0 := hcell 0 (by omega)
        have e1 := hcell 1 (by omega)
        rw [add_add] at e0 e1
        cases n with
        | zero => simp [DataW.trod] at h2
        | succ n =>
          rw [DataW.trod_step] at h2
          unfold DataW.trodStep at h2
          simp only [A.hu] at h2
          rw [if_pos (by rw [A.size]; rfl)] at h2
          simp only [Option.map_eq_some_iff] at h2
          obtain ⟨xs, hx, e2⟩ := h2
          rw [show List.range 2 = [0, 1] from rfl, List.mapM_cons, List.mapM_cons, List.mapM_nil] at hx
          simp only [bind, Option.bind_eq_some_iff, pure, Option.some.injEq, A.one] at hx
          obtain ⟨y0, h0, _, ⟨y1, h1, _, rfl, rfl⟩, rfl⟩ := hx
          obtain ⟨c0, q0, rfl, w0⟩ := DataW.trod_int Try.underlying5 h0
          obtain ⟨c1, q1, rfl, w1⟩ := DataW.trod_int Try.underlying5 h1
          simp at q0 q1
          subst q0; subst q1
          obtain ⟨x, rfl⟩ := lit_u8 w0
          obtain ⟨y, rfl⟩ := lit_u8 w1
          exact ⟨(x, y), by simpa using e0, by simpa using e1⟩
    obtain ⟨q, hq⟩ := choose_lt each
    refine ⟨(List.range len).map q, ⟨some a, cap, by simp, by simpa using hl, hm, fun h0 => ?_⟩⟩
    have h0' : 0 < len := by simpa using h0
    obtain ⟨c0, _⟩ := hq 0 (by omega)
    obtain ⟨hsp, hbl⟩ := cell_none c0
    obtain ⟨b, o, s⟩ := a
    simp [Addr.add] at hsp hbl
    subst hsp
    refine ⟨b, o, rfl, hbl, fun i hi => ?_⟩
    have hi' : i < len := by simpa using hi
    obtain ⟨e0, e1⟩ := hq i hi'
    rw [Addr.add_lit] at e0 e1
    rw [← Nat.add_assoc] at e1
    rw [List.getElem_map, List.getElem_range, e0, e1]
    exact ⟨rfl, rfl⟩
set_option maxRecDepth 100000 in
theorem openPrs {v : Value} {d : DataW H} {p : List MemPlace} (hv : Value.okWide Try.prog W r b0 22 v) (h : DataW.Trod enc Try.prog W base spare held 22 v d p) : ∃ al, PrS W v al := by
  obtain ⟨a0, len, cap, rfl⟩ := okWide_slice sPr hv
  obtain ⟨fuel, hf⟩ := h
  exact prs_of (x := (d, p)) (by simpa [Value.cells] using hf)
end
end Go.Proofs.Ytgodmppmiamhaaa
