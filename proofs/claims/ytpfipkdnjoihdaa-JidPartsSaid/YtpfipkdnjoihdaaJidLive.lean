/-
  What every statement of this layer asks besides ('live') is true.
-/
import Derived.Test.YtpfipkdnjoihdaaJidWalks7
import Derived.Test.YtpfipkdnjoihdaaJidWalks5
namespace Go.Proofs.Ytpfipkdnjoihdaa
set_option linter.unusedVariables false
set_option linter.unusedSimpArgs false
open Go.RowKit
attribute [local go_sem] setCell_drewN alloc_drewN drewN_drewN drew_drewN drewN_drew mk_get lt2 lt3 lt4 lt5 lt6 lt7 lt8
theorem bareB (l d r : List UInt8) (w : World) :
    Calls Try.prog 17 #[.agg #[.string ⟨l.toArray⟩, .string ⟨d.toArray⟩, .string ⟨r.toArray⟩]] w fun e w' => e = .returned (.agg #[.string ⟨l.toArray⟩, .string ⟨d.toArray⟩, .string ⟨#[]⟩]) ∧ Below w.heap.size w w' :=
  (bare_any l d r w).mono fun e w' ⟨h, o1, o2, n, h'⟩ => ⟨h, by rw [h']; exact belowN (belowA (below1 w _) _) _⟩
theorem bare0B (l d r : List UInt8) (w : World) :
    Calls Try.prog 18 #[.agg #[.string ⟨l.toArray⟩, .string ⟨d.toArray⟩, .string ⟨r.toArray⟩]] w fun e w' => e = .returned (.agg #[.string ⟨l.toArray⟩, .string ⟨d.toArray⟩, .string ⟨#[]⟩]) ∧ Below w.heap.size w w' :=
  (bare0_any l d r w).mono fun e w' ⟨h, o1, o2, n, h'⟩ => ⟨h, by rw [h']; exact belowN (belowA (below1 w _) _) _⟩
theorem normalB (l d r : List UInt8) (w : World) (h1 : l.length ≤ 140737488351232) (h2 : d.length ≤ 140737488351232) (h3 : r.length ≤ 140737488351232) :
    Calls Try.prog 19 #[.agg #[.string ⟨l.toArray⟩, .string ⟨d.toArray⟩, .string ⟨r.toArray⟩]] w fun e w' => e = .returned (.agg #[.string ⟨(lowL l).toArray⟩, .string ⟨(lowL d).toArray⟩, .string ⟨r.toArray⟩]) ∧ Below w.heap.size w w' :=
  (normal_any l d r w h1 h2 h3).mono fun e w' ⟨h, o1, o2, o3, o4, o5, n, h'⟩ => ⟨h, by rw [h']; exact belowN (belowA (belowA (belowA (belowA (below1 w _) _) _) _) _) _⟩
theorem normal0B (l d r : List UInt8) (w : World) (h1 : l.length ≤ 140737488351232) (h2 : d.length ≤ 140737488351232) (h3 : r.length ≤ 140737488351232) :
    Calls Try.prog 20 #[.agg #[.string ⟨l.toArray⟩, .string ⟨d.toArray⟩, .string ⟨r.toArray⟩]] w fun e w' => e = .returned (.agg #[.string ⟨(lowL l).toArray⟩, .string ⟨(lowL d).toArray⟩, .string ⟨r.toArray⟩]) ∧ Below w.heap.size w w' :=
  (normal0_any l d r w h1 h2 h3).mono fun e w' ⟨h, o1, o2, o3, o4, n, h'⟩ => ⟨h, by rw [h']; exact belowN (belowA (belowA (belowA (below1 w _) _) _) _) _⟩
theorem parse_live : parseV [114, 111, 109, 101, 111, 64, 101, 120, 97, 109, 112, 108, 101, 46, 110, 101, 116, 47, 111, 114, 99, 104, 97, 114, 100] = .tuple #[.agg #[.string ⟨#[114, 111, 109, 101, 111]⟩, .string ⟨#[101, 120, 97, 109, 112, 108, 101, 46, 110, 101, 116]⟩, .string ⟨#[111, 114, 99, 104, 97, 114, 100]⟩], .int .i64 0] := by
  have e : parseL [114, 111, 109, 101, 111, 64, 101, 120, 97, 109, 112, 108, 101, 46, 110, 101, 116, 47, 111, 114, 99, 104, 97, 114, 100] = some ([114, 111, 109, 101, 111], [101, 120, 97, 109, 112, 108, 101, 46, 110, 101, 116], [111, 114, 99, 104, 97, 114, 100]) := by decide +kernel
  unfold parseV
  rw [e]
theorem right_live : rightJ [114, 111, 109, 101, 111] [101, 120, 97, 109, 112, 108, 101, 46, 110, 101, 116] [111, 114, 99, 104, 97, 114, 100] = true := by decide +kernel
set_option maxHeartbeats 2000000 in
theorem live_any (w : World) : Calls Try.prog 12 #[] w fun e w' => e = .returned (.bool true) ∧ Below w.heap.size w w' := by
  have hP : ∀ w, Calls Try.prog 10 #[.string ⟨#[114, 111, 109, 101, 111, 64, 101, 120, 97, 109, 112, 108, 101, 46, 110, 101, 116, 47, 111, 114, 99, 104, 97, 114, 100]⟩] w fun e w' => e = .returned (.tuple #[.agg #[.string ⟨#[114, 111, 109, 101, 111]⟩, .string ⟨#[101, 120, 97, 109, 112, 108, 101, 46, 110, 101, 116]⟩, .string ⟨#[111, 114, 99, 104, 97, 114, 100]⟩], .int .i64 0]) ∧ Below w.heap.size w w' := fun w =>
    (parse_any [114, 111, 109, 101, 111, 64, 101, 120, 97, 109, 112, 108, 101, 46, 110, 101, 116, 47, 111, 114, 99, 104, 97, 114, 100] w (by decide)).mono fun e w' h => by rw [parse_live] at h; exact h
  have hR : ∀ w, Calls Try.prog 15 #[.agg #[.string ⟨#[114, 111, 109, 101, 111]⟩, .string ⟨#[101, 120, 97, 109, 112, 108, 101, 46, 110, 101, 116]⟩, .string ⟨#[111, 114, 99, 104, 97, 114, 100]⟩]] w fun e w' => e = .returned (.bool true) ∧ Below w.heap.size w w' := fun w =>
    (right_any [114, 111, 109, 101, 111] [101, 120, 97, 109, 112, 108, 101, 46, 110, 101, 116] [111, 114, 99, 104, 97, 114, 100] w (by decide) (by decide) (by decide)).mono fun e w' h => by rw [right_live] at h; exact h
  have hB : ∀ w, Calls Try.prog 17 #[.agg #[.string ⟨#[114, 111, 109, 101, 111]⟩, .string ⟨#[101, 120, 97, 109, 112, 108, 101, 46, 110, 101, 116]⟩, .string ⟨#[111, 114, 99, 104, 97, 114, 100]⟩]] w fun e w' => e = .returned (.agg #[.string ⟨#[114, 111, 109, 101, 111]⟩, .string ⟨#[101, 120, 97, 109, 112, 108, 101, 46, 110, 101, 116]⟩, .string ⟨#[]⟩]) ∧ ∃ o1 o2 n, w' = ((w.alloc o1).alloc o2).drewN n := fun w => bare_any [114, 111, 109, 101, 111] [101, 120, 97, 109, 112, 108, 101, 46, 110, 101, 116] [111, 114, 99, 104, 97, 114, 100] w
  replace hP := Lib.hid hP
  replace hR := Lib.hid hR
  replace hB := Lib.hid hB
  have hf : ∀ (x y z : Value) (w : World), (Instr.field 23 (.agg #[x, y, z]) 2).run Try.prog w = .ok z w := fun _ _ _ _ => by kernel_rfl
  go_enter Try.func12, Try.ntmps12
  go_wp2_with (first
    | (go_at_call 10; refine (hP.out _).mono ?_; rintro e w1 ⟨rfl, hb1⟩; replace hb1 := Lib.hid hb1)
    | (go_at_call 15; refine (hR.out _).mono ?_; rintro e w2 ⟨rfl, hb2⟩)
    | (go_at_call 17; refine (hB.out _).mono ?_; rintro e w2 ⟨rfl, o1, o2, n, rfl⟩))
  go_ret
  exact ⟨rfl, belowT (belowT hb1.out (belowN (belowA (belowA (below1 w1 _) _) _) n)) hb2⟩
end Go.Proofs.Ytpfipkdnjoihdaa
