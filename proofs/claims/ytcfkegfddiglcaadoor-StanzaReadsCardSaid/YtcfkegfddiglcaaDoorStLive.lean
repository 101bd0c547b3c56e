/-
  The canary of the laws: it says true. A stanza of not too many tokens (few).
-/
import Derived.Test.YtcfkegfddiglcaaDoorStSame
namespace Go.Proofs.YtcfkegfddiglcaaDoor
set_option linter.unusedVariables false
set_option linter.unusedSimpArgs false
open Go.RowKit Go.MapKept
def liveS : Sz := ⟨1, [103, 101, 116], [], [], [49], []⟩
theorem liveS_right : rightZ liveS = true := by decide +kernel
theorem liveS_small : liveS.small := ⟨⟨by simp [liveS], by simp [liveS], by simp [liveS], by simp [liveS]⟩, by simp [liveS], fun tk h => by cases h⟩
theorem liveT_small : ∀ tk ∈ tokensZ liveS, tk.small ∧ tk.as.length * 32 ≤ 140737488351232 := fun tk ht => ⟨tokens_small liveS_small tk ht, by
  have := attrsZ_len liveS
  unfold tokensZ elemL at ht
  simp only [List.mem_cons, List.mem_append, List.mem_nil_iff, or_false] at ht
  rcases ht with rfl | ht | rfl
  · show (attrsZ liveS).length * 32 ≤ _; omega
  · cases ht
  · simp⟩
set_option maxHeartbeats 2000000 in
theorem live6_any (w : World) : Calls Tryd.prog 6 #[] w fun e w' => e = .returned (.bool true) ∧ Below w.heap.size w w' := by
  have tE : Hid (encL liveS = tokensZ liveS) := Lib.hid (by unfold encL; rw [liveS_right]; rfl)
  have tD : Hid (decZ (encL liveS) = some liveS) := Lib.hid (by rw [tE.out]; exact dec_tokens liveS_right)
  have tF : Hid (failV (failZ (errZ liveS 3)) = .tuple #[.int .i64 3, .bool true]) := Lib.hid (by have h : failZ (errZ liveS 3) = 3 := by { decide +kernel }; rw [h]; rfl)
  go_enter Tryd.func6, Tryd.ntmps6
  go_wp2_with (first
    | (go_at_call 16
       refine (encode_any liveS _ _ (tk_nil _ 0 (Nat.zero_le _)) liveS_small).mono ?_
       rintro e w1 ⟨v, rfl, hv, hb1⟩
       obtain ⟨va, vc, rfl⟩ : ∃ a c, v = .slice a 2 c := (by obtain ⟨a, c, h, -⟩ := hv; exact ⟨a, c, by rw [h, tE.out]; rfl⟩)
       rw [show errE (rightZ liveS) = 0 by rw [liveS_right]; rfl]
       obtain ⟨h1c, -⟩ := bat hb1 w.heap.size (by simp)
       have hB1 := Lib.hid ((below1 w _).trans (hb1.mono (by simp)))
       have hl1 : w.heap.size < w1.heap.size := Nat.lt_of_lt_of_le (by simp) hb1.size
       replace hb1 := Lib.hid hb1
       replace hv := Lib.hid hv)
    | (go_at_call 4
       refine (decode_any _ _ _ hv.out (by rw [tE.out]; exact liveT_small) (by rw [tE.out]; decide)).mono ?_
       rintro e w2 ⟨sv, z, rfl, hz, hT2, hb2⟩
       rw [tD.out] at hz
       obtain rfl : liveS = z := hz
       obtain ⟨sa, sn, sc, rfl⟩ : ∃ a n c, sv = .slice a n c := (by obtain ⟨a, c, h, -⟩ := hT2; exact ⟨a, _, c, h⟩)
       rw [tD.out]
       rw [show szV liveS (.slice sa sn sc) = .agg #[.int .u8 1, .string ⟨#[103, 101, 116]⟩, .string ⟨#[]⟩, .string ⟨#[]⟩, .string ⟨#[49]⟩, .slice sa sn sc] from rfl, show errE (some liveS).isSome = 0 from rfl]
       obtain ⟨h2c, -⟩ := bat hb2 w.heap.size hl1
       have hB2 := Lib.hid (belowT hB1.out hb2)
       have hl2 : w.heap.size < w2.heap.size := Nat.lt_of_lt_of_le hl1 hb2.size
       replace hb2 := Lib.hid hb2
       replace hT2 := Lib.hid hT2)
    | (go_at_call 18
       refine (error_any liveS _ 3 _ ⟨none, 0, 0, rfl⟩).mono ?_
       rintro e w3 ⟨sv3, rfl, hF3, hb3⟩
       obtain ⟨h3c, -⟩ := bat hb3 w2.heap.size (by simp)
       have hl3 : w2.heap.size < w3.heap.size := Nat.lt_of_lt_of_le (by simp) hb3.size
       have hB3 := Lib.hid (belowT (belowA hB2.out _) hb3)
       replace hb3 := Lib.hid hb3
       replace hF3 := Lib.hid hF3)
    | (go_at_call 17
       refine (failed_any (errZ liveS 3) sv3 _ hF3.out.tks).mono ?_
       rintro e w4 ⟨rfl, hb4⟩
       rw [tF.out]
       obtain ⟨h4c, -⟩ := bat hb4 w2.heap.size hl3
       have hB4 := Lib.hid (belowT hB3.out hb4)
       replace hb4 := Lib.hid hb4))
  go_ret
  exact ⟨rfl, hB4.out⟩
end Go.Proofs.YtcfkegfddiglcaaDoor
