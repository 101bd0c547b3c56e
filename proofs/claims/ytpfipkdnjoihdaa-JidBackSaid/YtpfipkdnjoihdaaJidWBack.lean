/-
  The walk of JidBack: parse of print is the address; print of parse is the text.
-/
import Derived.Test.YtpfipkdnjoihdaaJidLive
namespace Go.Proofs.Ytpfipkdnjoihdaa
set_option linter.unusedVariables false
set_option linter.unusedSimpArgs false
open Go.RowKit
attribute [local go_sem] setCell_drewN alloc_drewN drewN_drewN drew_drewN drewN_drew mk_get lt2 lt3 lt4 lt5 lt6 lt7 lt8
def jidT (l d r : List UInt8) (k : Int) : Value := .tuple #[.agg #[.string ⟨l.toArray⟩, .string ⟨d.toArray⟩, .string ⟨r.toArray⟩], .int .i64 k]
theorem parse_yes {s l d r : List UInt8} (h : parseL s = some (l, d, r)) : parseV s = .tuple #[.agg #[.string ⟨l.toArray⟩, .string ⟨d.toArray⟩, .string ⟨r.toArray⟩], .int .i64 0] := by unfold parseV; rw [h]
theorem parse_no {s : List UInt8} (h : parseL s = none) : parseV s = .tuple #[.agg #[.string ⟨#[]⟩, .string ⟨#[]⟩, .string ⟨#[]⟩], .int .i64 3] := by unfold parseV; rw [h]
set_option maxHeartbeats 4000000 in
theorem jidBack_walk (x y z s : List UInt8) (w : World) (hx : x.length ≤ 140737488351232) (hy : y.length ≤ 140737488351232) (hz : z.length ≤ 140737488351232) (hs : s.length ≤ 140737488351232) :
    Calls Try.prog 5 #[.agg #[.string ⟨x.toArray⟩, .string ⟨y.toArray⟩, .string ⟨z.toArray⟩], .string ⟨s.toArray⟩] w fun e w' => e = .returned (.bool true) ∧ Below w.heap.size w w' := by
  have hL := Lib.hid live_any
  have hP := Lib.hid fun w => parse_any s w hs
  have hJ := Lib.hid fun w => print_any x y z w hx hy hz
  have tok1 : True := trivial
  have tok2 : True := trivial
  cases hp : parseL s with
  | none =>
    rw [parse_no hp] at hP
    clear hp
    cases hR : rightJ x y z
    · rw [show printJ x y z = [] by simp [printJ, hR], show errJ (rightJ x y z) = 3 by rw [hR]; rfl] at hJ
      clear hR
      go_enter Try.func5, Try.ntmps5
      go_wp2_with (first
        | (go_at_call 13; refine (hJ.out _).mono ?_; rintro e w1 ⟨rfl, hb⟩; have h1 := Lib.hid hb; clear hb)
        | (go_at_call 10; refine (hP.out _).mono ?_; rintro e w3 ⟨rfl, hb⟩; have h3 := Lib.hid hb; clear hb)
        | (go_at_call 12; refine (hL.out _).mono ?_; rintro e w5 ⟨rfl, hb⟩; obtain ⟨hc5, hz5⟩ := bat hb w3.heap.size (by simp); have h5 := Lib.hid hb; clear hb))
      go_ret
      exact ⟨rfl, belowT (belowA (belowT (below1t h1.out) h3.out) _) h5.out⟩
    · rw [show printJ x y z = joinL x y z by simp [printJ, hR], show errJ (rightJ x y z) = 0 by rw [hR]; rfl] at hJ
      have hQ := Lib.hid fun w => parse_any (joinL x y z) w (by have := (rightJ_parts hR).2.2.2.2.1; omega)
      rw [parse_yes (parse_join hR)] at hQ
      clear hR
      go_enter Try.func5, Try.ntmps5
      go_wp2_with (first
        | (go_at_call 13; refine (hJ.out _).mono ?_; rintro e w1 ⟨rfl, hb⟩; obtain ⟨hc1, hz1⟩ := bat hb w.heap.size (by simp); have q1 : w.heap.size < w1.heap.size := (by have := hb.size; simp at this; omega); have h1 := Lib.hid hb; clear hb)
        | (go_at_call 10; have _t := tok2; refine (hQ.out _).mono ?_; rintro e w2 ⟨rfl, hb⟩; clear tok2 _t; obtain ⟨hc2, hz2⟩ := bat hb w.heap.size q1; have q2 : w.heap.size < w2.heap.size := (by have := hb.size; omega); have h2 := Lib.hid hb; clear hb)
        | (go_at_call 10; refine (hP.out _).mono ?_; rintro e w3 ⟨rfl, hb⟩; have h3 := Lib.hid hb; clear hb)
        | (go_at_call 12; refine (hL.out _).mono ?_; rintro e w5 ⟨rfl, hb⟩; obtain ⟨hc5, hz5⟩ := bat hb w3.heap.size (by simp); have h5 := Lib.hid hb; clear hb))
      go_ret
      exact ⟨rfl, belowT (belowA (belowT (belowA (belowT (below1t h1.out) h2.out) _) h3.out) _) h5.out⟩
  | some j =>
    obtain ⟨l, d, r⟩ := j
    rw [parse_yes hp] at hP
    obtain ⟨hr2, hjo⟩ := join_parse hp
    obtain ⟨-, -, -, -, gs, g1, g2, g3⟩ := rightJ_parts hr2
    rw [hjo] at gs
    have hK := Lib.hid fun w => print_any l d r w (by omega) (by omega) (by omega)
    rw [show printJ l d r = s by rw [← hjo]; simp [printJ, hr2], show errJ (rightJ l d r) = 0 by rw [hr2]; rfl] at hK
    clear hp hr2 hjo
    cases hR : rightJ x y z
    · rw [show printJ x y z = [] by simp [printJ, hR], show errJ (rightJ x y z) = 3 by rw [hR]; rfl] at hJ
      clear hR
      go_enter Try.func5, Try.ntmps5
      go_wp2_with (first
        | (go_at_call 13; have _t := tok1; refine (hJ.out _).mono ?_; rintro e w1 ⟨rfl, hb⟩; clear tok1 _t; have h1 := Lib.hid hb; clear hb)
        | (go_at_call 10; refine (hP.out _).mono ?_; rintro e w3 ⟨rfl, hb⟩; have h3 := Lib.hid hb; clear hb)
        | (go_at_call 13; refine (hK.out _).mono ?_; rintro e w4 ⟨rfl, hb⟩; have h4 := Lib.hid hb; clear hb)
        | (go_at_call 12; refine (hL.out _).mono ?_; rintro e w5 ⟨rfl, hb⟩; have h5 := Lib.hid hb; clear hb))
      go_ret
      exact ⟨(by simp; omega), belowT (belowT (belowA (belowT (below1t h1.out) h3.out) _) h4.out) h5.out⟩
    · rw [show printJ x y z = joinL x y z by simp [printJ, hR], show errJ (rightJ x y z) = 0 by rw [hR]; rfl] at hJ
      have hQ := Lib.hid fun w => parse_any (joinL x y z) w (by have := (rightJ_parts hR).2.2.2.2.1; omega)
      rw [parse_yes (parse_join hR)] at hQ
      clear hR
      go_enter Try.func5, Try.ntmps5
      go_wp2_with (first
        | (go_at_call 13; have _t := tok1; refine (hJ.out _).mono ?_; rintro e w1 ⟨rfl, hb⟩; clear tok1 _t; obtain ⟨hc1, hz1⟩ := bat hb w.heap.size (by simp); have q1 : w.heap.size < w1.heap.size := (by have := hb.size; simp at this; omega); have h1 := Lib.hid hb; clear hb)
        | (go_at_call 10; have _t := tok2; refine (hQ.out _).mono ?_; rintro e w2 ⟨rfl, hb⟩; clear tok2 _t; obtain ⟨hc2, hz2⟩ := bat hb w.heap.size q1; have q2 : w.heap.size < w2.heap.size := (by have := hb.size; omega); have h2 := Lib.hid hb; clear hb)
        | (go_at_call 10; refine (hP.out _).mono ?_; rintro e w3 ⟨rfl, hb⟩; have h3 := Lib.hid hb; clear hb)
        | (go_at_call 13; refine (hK.out _).mono ?_; rintro e w4 ⟨rfl, hb⟩; have h4 := Lib.hid hb; clear hb)
        | (go_at_call 12; refine (hL.out _).mono ?_; rintro e w5 ⟨rfl, hb⟩; have h5 := Lib.hid hb; clear hb))
      go_ret
      exact ⟨(by simp; omega), belowT (belowT (belowA (belowT (belowA (belowT (below1t h1.out) h2.out) _) h3.out) _) h4.out) h5.out⟩
end Go.Proofs.Ytpfipkdnjoihdaa
