/-
  The walk of JidParses: the program's Parse and the reference's say the same of every text.
-/
import Derived.Test.YtpfipkdnjoihdaaJidLive
namespace Go.Proofs.Ytpfipkdnjoihdaa
open Go.RowKit
attribute [local go_sem] setCell_drewN alloc_drewN drewN_drewN drew_drewN drewN_drew mk_get lt2 lt3 lt4 lt5 lt6 lt7 lt8
set_option maxHeartbeats 2000000 in
theorem jidParses_walk (s : List UInt8) (w : World) (hs : s.length ≤ 140737488351232) :
    Calls Try.prog 3 #[.string ⟨s.toArray⟩] w fun e w' => e = .returned (.bool true) ∧ Below w.heap.size w w' := by
  obtain ⟨l, d, r, k, hV⟩ : ∃ (l d r : List UInt8) (k : Int), parseV s = .tuple #[.agg #[.string ⟨l.toArray⟩, .string ⟨d.toArray⟩, .string ⟨r.toArray⟩], .int .i64 k] := by
    unfold parseV
    cases parseL s with
    | none => exact ⟨[], [], [], 3, rfl⟩
    | some x => obtain ⟨l, d, r⟩ := x; exact ⟨l, d, r, 0, rfl⟩
  have hP := Lib.hid fun w => parse_any s w hs
  have hQ := Lib.hid fun w => parse0_any s w hs
  have hL := Lib.hid live_any
  rw [hV] at hP hQ
  clear hV
  go_enter Try.func3, Try.ntmps3
  go_wp2_with (first
    | (go_at_call 10; refine (hP.out _).mono ?_; rintro e w1 ⟨rfl, hb1⟩; replace hb1 := Lib.hid hb1)
    | (go_at_call 11; refine (hQ.out _).mono ?_; rintro e w2 ⟨rfl, hb2⟩; obtain ⟨hc2, hz2⟩ := bat hb2 w1.heap.size (by simp); have q2 : w1.heap.size < w2.heap.size := (by have := hb2.size; simp at this; omega); replace hb2 := Lib.hid hb2)
    | (go_at_call 12; refine (hL.out _).mono ?_; rintro e w3 ⟨rfl, hb3⟩; obtain ⟨hc3, hz3⟩ := bat hb3 w1.heap.size (by simp; omega); obtain ⟨hc4, hz4⟩ := bat hb3 w2.heap.size (by simp); replace hb3 := Lib.hid hb3))
  go_ret
  exact ⟨rfl, belowT (belowA (belowT (belowA hb1.out _) hb2.out) _) hb3.out⟩
end Go.Proofs.Ytpfipkdnjoihdaa
