/-
  The place of somebody in a list of one, who is they (slices.BinarySearchFunc), by the program. No condition.
-/
import Derived.Test.YtoijpjmkjhoiaaaAsSet
namespace Go.Proofs.Ytoijpjmkjhoiaaa
set_option linter.unusedVariables false
set_option linter.unusedSimpArgs false
open Go.RowKit Go.MapKept Go.Shelf
set_option maxRecDepth 100000 in
set_option maxHeartbeats 4000000 in
theorem bs1Sub_any (x : Tx × Bool × Int) (g c : Nat) (cb : Array Value) (w : World) (hx : w.cell? ⟨g, 0, none⟩ = some (.string ⟨x.1.toArray⟩) ∧ w.cell? ⟨g, 1, none⟩ = some (.bool x.2.1) ∧ w.cell? ⟨g, 2, none⟩ = some (.int .i64 x.2.2)) (hg : g < w.heap.size)
    (hC : ∀ W, Below w.heap.size w W → Calls Try.prog 42 (#[.agg #[.string ⟨x.1.toArray⟩, .bool x.2.1, .int .i64 x.2.2], .string ⟨x.1.toArray⟩] ++ cb) W fun r w' => r = .returned (.int .i64 0) ∧ Below W.heap.size W w') :
    Calls Try.prog 41 #[.slice (some ⟨g, 0, none⟩) 1 c, .string ⟨x.1.toArray⟩, .func (.func 42) #[] cb] w fun e w' => e = .returned (.tuple #[.int .i64 0, .bool true]) ∧ Below w.heap.size w w' := by
  have eg := enters_of (P := Try.prog) Try.func42 (by kernel_rfl) rfl
  obtain ⟨j, p, d⟩ := x
  simp only at hx hC ⊢
  obtain ⟨d0, d1, d2⟩ := hx
  replace hC := Lib.hid hC
  go_enter Try.func41, Try.ntmps41
  go_wp2
  go_loopw [9, 10] (fun s9 s10 wr => s9 = .int .i64 0 ∧ (∃ q : Nat, q ≤ 1 ∧ s10 = .int .i64 q) ∧ Hid (Below w.heap.size w wr)) (fun _ s10 _ => (intOf s10).toNat)
  case atStart => exact ⟨rfl, ⟨1, Nat.le_refl _, rfl⟩, Lib.hid (Below.refl _ _)⟩
  case round =>
    obtain ⟨rfl, ⟨q, hq, rfl⟩, hB⟩ := hrel
    have e0 := (hB.out.cell (p := ⟨g, 0, none⟩) hg).trans d0
    have e1 := (hB.out.cell (p := ⟨g, 1, none⟩) hg).trans d1
    have e2 := (hB.out.cell (p := ⟨g, 2, none⟩) hg).trans d2
    have hgw := Nat.lt_of_lt_of_le hg hB.out.size
    have hCw := Lib.hid (hC.out _ hB.out)
    clear d0 d1 d2
    obtain rfl | rfl : q = 0 ∨ q = 1 := by omega
    · have ez : ((0 : Nat) : Int) = 0 := rfl
      rw [ez]
      go_wp2_with (go_at_call 42; refine hCw.out.mono ?_; rintro e w1 ⟨rfl, hb1⟩; replace hb1 := Lib.hid hb1)
      go_ret2
      exact ⟨rfl, belowT hB.out hb1.out⟩
    · have ez : ((1 : Nat) : Int) = 1 := rfl
      rw [ez]
      go_wp2_with (go_at_call 42; refine hCw.out.mono ?_; rintro e w1 ⟨rfl, hb1⟩; replace hb1 := Lib.hid hb1)
      go_roundw
      case rel => exact ⟨rfl, ⟨0, by omega, rfl⟩, Lib.hid (belowT hB.out hb1.out)⟩
      case measure => simp [intOf]
end Go.Proofs.Ytoijpjmkjhoiaaa
