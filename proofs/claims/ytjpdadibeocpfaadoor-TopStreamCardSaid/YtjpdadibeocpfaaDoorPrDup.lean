/-
  No attribute ahead has this name (slices.ContainsFunc with begin's closure). Condition: at most 1000 attributes.
-/
import Derived.Test.YtjpdadibeocpfaaDoorPrMa
import Derived.WalkMore
import Derived.RangeFuncKeeps
namespace Go.Proofs.YtjpdadibeocpfaaDoor
set_option linter.unusedVariables false
set_option linter.unusedSimpArgs false
open Go.RowKit Go.MapKept Go.Proofs
theorem dupName_any (x y nm : List UInt8) (b : Nat) (W : World) (hx : x ≠ nm) (hc : W.cell? ⟨b, 0, none⟩ = some (.string ⟨nm.toArray⟩)) (hb : b < W.heap.size) :
    Calls Tryd.prog 70 #[.agg #[.string ⟨x.toArray⟩, .string ⟨y.toArray⟩], .pointer (some ⟨b, 0, none⟩)] W fun e w' => e = .returned (.bool false) ∧ Below W.heap.size W w' := by
  have hf : (nm == x) = false := by rw [beq_eq_false_iff_ne]; exact fun e => hx e.symm
  have hf2 : (x == nm) = false := by rw [beq_eq_false_iff_ne]; exact hx
  replace hx := Lib.hid hx
  go_enter Tryd.func70, Tryd.ntmps70
  go_wp2
  go_ret
  exact ⟨by simp [hf, hf2], below1 _ _⟩
set_option maxHeartbeats 2000000 in
theorem ixAttr_any (ptr : Option Addr) (cap N g b : Nat) (al : Ats) (nm : List UInt8) (w : World) (hN : al.length = N) (hptr : 0 < N → ptr = some ⟨g, 0, none⟩) (hN1 : N ≤ 1000)
    (hcs : ∀ i (h : i < al.length), w.cell? ⟨g, i * 2, none⟩ = some (.string ⟨(al[i]'h).1.toArray⟩) ∧ w.cell? ⟨g, i * 2 + 1, none⟩ = some (.string ⟨(al[i]'h).2.toArray⟩)) (hg : 0 < N → g < w.heap.size)
    (hno : ∀ i (h : i < al.length), (al[i]'h).1 ≠ nm) (hc : w.cell? ⟨b, 0, none⟩ = some (.string ⟨nm.toArray⟩)) (hb : b < w.heap.size) :
    Calls Tryd.prog 82 #[.slice ptr N cap, .func (.func 70) #[] #[.pointer (some ⟨b, 0, none⟩)]] w fun e w' => e = .returned (.int .i64 (-1)) ∧ Below w.heap.size w w' := by
  replace hN := Lib.hid hN
  replace hcs := Lib.hid hcs
  replace hno := Lib.hid hno
  replace hptr := Lib.hid hptr
  replace hg := Lib.hid hg
  go_enter Tryd.func82, Tryd.ntmps82
  go_wp2
  go_loopw [8] (fun s8 wr => ∃ k : Nat, k ≤ N ∧ s8 = .int .i64 k ∧ Hid (Below w.heap.size w wr)) (fun s8 _ => N - (intOf s8).toNat)
  case atStart => exact ⟨0, Nat.zero_le _, rfl, Lib.hid (Below.refl _ _)⟩
  case round =>
    obtain ⟨k, hk, rfl, hB⟩ := hrel
    by_cases hlt : k < N
    · have hk3 : k < al.length := by have := hN.out; omega
      obtain rfl := hptr.out (by omega)
      have hgl := hg.out (by omega)
      obtain ⟨d0, d1⟩ := hcs.out k hk3
      replace d0 := (hB.out.cell (p := ⟨g, k * 2, none⟩) hgl).trans d0
      replace d1 := (hB.out.cell (p := ⟨g, k * 2 + 1, none⟩) hgl).trans d1
      have hcw := (hB.out.cell (p := ⟨b, 0, none⟩) hb).trans hc
      have hbw : b < wr.heap.size := Nat.lt_of_lt_of_le hb hB.out.size
      have hgw : g < wr.heap.size := Nat.lt_of_lt_of_le hgl hB.out.size
      have hS := Lib.hid (dupName_any (al[k]'hk3).1 (al[k]'hk3).2 nm b wr (hno.out k hk3) hcw hbw)
      generalize (al[k]'hk3) = p at d0 d1 hS
      obtain ⟨x, y⟩ := p
      simp only at d0 d1 hS
      have hki : (k : Int) < (N : Int) := by omega
      have hk0 : (0 : Int) ≤ (k : Int) := by omega
      replace hcw := Lib.hid hcw
      go_wp2_with (go_at_call 70; refine hS.out.mono ?_; rintro e w2 ⟨rfl, hb2⟩; replace hb2 := Lib.hid hb2)
      go_roundw
      case rel => exact ⟨k + 1, by omega, by go_num, Lib.hid (belowT hB.out hb2.out)⟩
      case measure => simp [intOf]; omega
    · obtain rfl : k = N := by omega
      go_wp2
      go_ret
      exact ⟨rfl, hB.out⟩
theorem noDup_any (ptr : Option Addr) (cap N g b : Nat) (al : Ats) (nm : List UInt8) (w : World) (hN : al.length = N) (hptr : 0 < N → ptr = some ⟨g, 0, none⟩) (hN1 : N ≤ 1000)
    (hcs : ∀ i (h : i < al.length), w.cell? ⟨g, i * 2, none⟩ = some (.string ⟨(al[i]'h).1.toArray⟩) ∧ w.cell? ⟨g, i * 2 + 1, none⟩ = some (.string ⟨(al[i]'h).2.toArray⟩)) (hg : 0 < N → g < w.heap.size)
    (hno : ∀ i (h : i < al.length), (al[i]'h).1 ≠ nm) (hc : w.cell? ⟨b, 0, none⟩ = some (.string ⟨nm.toArray⟩)) (hb : b < w.heap.size) :
    Calls Tryd.prog 69 #[.slice ptr N cap, .func (.func 70) #[] #[.pointer (some ⟨b, 0, none⟩)]] w fun e w' => e = .returned (.bool false) ∧ Below w.heap.size w w' := by
  have hI := Lib.hid (ixAttr_any ptr cap N g b al nm w hN hptr hN1 hcs hg hno hc hb)
  clear hN hptr hcs hg hno hc hb
  go_enter Tryd.func69, Tryd.ntmps69
  go_wp2_with (go_at_call 82; refine hI.out.mono ?_; rintro e w1 ⟨rfl, hb1⟩)
  go_ret
  exact ⟨rfl, hb1⟩
end Go.Proofs.YtjpdadibeocpfaaDoor
