/-
  The canary of the laws: it says true. A stanza of not too many tokens (few).
-/
import Derived.Test.YtpgojinfhfipeaaStSame
namespace Go.Proofs.Ytpgojinfhfipeaa
set_option linter.unusedVariables false
set_option linter.unusedSimpArgs false
open Go.RowKit Go.MapKept
def liveS : Sz := ⟨1, [103, 101, 116], [], [], [49], []⟩
theorem liveS_right : rightZ liveS = true := by decide +kernel
theorem liveS_small : liveS.small := ⟨⟨by simp [liveS], by simp [liveS], by simp [liveS], by simp [liveS]⟩, by simp [liveS], fun tk h => by cases h⟩
theorem liveT_small : ∀ tk ∈ tokensZ liveS, tk.small ∧ tk.as.length * 32 ≤ 140737488351232 := fun tk ht => ⟨tokens_small liveS_small tk ht, by
  have := attrsZ_len liveS
  unfold tokensZ elemL at ht
  simp only [List.mem_cons, List.mem_append, List.mem_nil_iff, or_false] at ht
  rcases ht with rfl | ht | rfl
  · show (attrsZ liveS).length * 32 ≤ _; omega
  · cases ht
  · simp⟩
set_option maxHeartbeats 2000000 in
theorem live6_any (w : World) : Calls Try.prog 9 #[] w fun e w' => e = .returned (.bool true) ∧ Below w.heap.size w w' := by
  have tE : Hid (encL liveS = tokensZ liveS) := Lib.hid (by unfold encL; rw [liveS_right]; rfl)
  have tD : Hid (decZ (encL liveS) = some liveS) := Lib.hid (by rw [tE.out]; exact dec_tokens liveS_right)
  have tF : Hid (failV (failZ (errZ liveS 3)) = .tuple #[.int .i64 3, .bool true]) := Lib.hid (by have h : failZ (errZ liveS 3) = 3 := by { decide +kernel }; rw [h]; rfl)
  go_enter Try.func9, Try.ntmps9
  go_wp2_with (first
    | (go_at_call 8
       refine (encode_any liveS _ _ (tk_nil _ 0 (Nat.zero_le _)) liveS_small).mono ?_
       rintro e w1 ⟨v, rfl, hv, hb1⟩
       obtain ⟨va, vc, rfl⟩ : ∃ a c, v = .slice a 2 c := (by obtain ⟨a, c, h, -⟩ := hv; exact ⟨a, c, by rw [h, tE.out]; rfl⟩)
       rw [show errE (rightZ liveS) = 0 by rw [liveS_right]; rfl]
       obtain ⟨h1c, -⟩ := bat hb1 w.heap.size (by simp)
       have hB1 := Lib.hid ((below1 w _).trans (hb1.mono (by simp)))
       have hl1 : w.heap.size < w1.heap.size := Nat.lt_of_lt_of_le (by simp) hb1.size
       replace hb1 := Lib.hid hb1
       replace hv := Lib.hid hv)
    | (go_at_call 19
       refine (decode_any _ _ _ hv.out (by rw [tE.out]; exact liveT_small) (by rw [tE.out]; decide)).mono ?_
       rintro e w2 ⟨sv, z, rfl, hz, hT2, hb2⟩
       rw [tD.out] at hz
       obtain rfl : liveS = z := hz
       obtain ⟨sa, sn, sc, rfl⟩ : ∃ a n c, sv = .slice a n c := (by obtain ⟨a, c, h, -⟩ := hT2; exact ⟨a, _, c, h⟩)
       rw [tD.out]
       rw [show szV liveS (.slice sa sn sc) = .agg #[.int .u8 1, .string ⟨#[103, 101, 116]⟩, .string ⟨#[]⟩, .string ⟨#[]⟩, .string ⟨#[49]⟩, .slice sa sn sc] from rfl, show errE (some liveS).isSome = 0 from rfl]
       obtain ⟨h2c, -⟩ := bat hb2 w.heap.size hl1
       have hB2 := Lib.hid (belowT hB1.out hb2)
       have hl2 : w.heap.size < w2.heap.size := Nat.lt_of_lt_of_le hl1 hb2.size
       replace hb2 := Lib.hid hb2
       replace hT2 := Lib.hid hT2)
    | (go_at_call 17
       refine (error_any liveS _ 3 _ ⟨none, 0, 0, rfl⟩).mono ?_
       rintro e w3 ⟨sv3, rfl, hF3, hb3⟩
       obtain ⟨h3c, -⟩ := bat hb3 w2.heap.size (by simp)
       have hl3 : w2.heap.size < w3.heap.size := Nat.lt_of_lt_of_le (by simp) hb3.size
       have hB3 := Lib.hid (belowT (belowA hB2.out _) hb3)
       replace hb3 := Lib.hid hb3
       replace hF3 := Lib.hid hF3)
    | (go_at_call 12
       refine (failed_any (errZ liveS 3) sv3 _ hF3.out.tks).mono ?_
       rintro e w4 ⟨rfl, hb4⟩
       rw [tF.out]
       obtain ⟨h4c, -⟩ := bat hb4 w2.heap.size hl3
       have hB4 := Lib.hid (belowT hB3.out hb4)
       replace hb4 := Lib.hid hb4))
  go_ret
  exact ⟨rfl, hB4.out⟩
set_option maxHeartbeats 1000000 in
theorem few6_any (z : Sz) (sv : Value) (w : World) (hT : TkS w sv z.pl) :
    Calls Try.prog 11 #[szV z sv] w fun e w' => ∃ sv', e = .returned (szV { z with pl := z.pl.take 70 } sv') ∧ TkS w' sv' (z.pl.take 70) ∧ Below w.heap.size w w' := by
  have hT70 : ∀ p c, sv = .slice p z.pl.length c → 70 < z.pl.length → TkS w (.slice p 70 c) (z.pl.take 70) := by
    intro p c h h70
    obtain ⟨ptr, cap, he, hcap, hcapm, htk⟩ := hT
    rw [h] at he
    injection he with e1 e2 e3
    subst e1 e3
    refine ⟨_, _, by rw [List.length_take, show min 70 z.pl.length = 70 by omega], by rw [List.length_take]; omega, hcapm, fun _ => ?_⟩
    obtain ⟨b, o, e, hb, hc⟩ := htk (by omega)
    refine ⟨b, o, e, hb, fun i hi => ?_⟩
    rw [List.length_take] at hi
    rw [List.getElem_take]
    exact hc i (by omega)
  by_cases h70 : 70 < z.pl.length
  · obtain ⟨p, c, rfl, hcap, hcapm, -⟩ := hT
    have hTn := Lib.hid (hT70 p c rfl h70)
    have hi : (70 : Int) < z.pl.length := by omega
    have h9 : (z.pl.length : Int) ≤ 9223372036854775807 := by unfold maxLen at hcapm; omega
    have hc7 : 70 ≤ c := by omega
    clear hT70
    unfold szV
    obtain ⟨k, ty, fr, tt, id, pl⟩ := z
    simp only at hi h9 h70 hcap hTn ⊢
    generalize pl.length = n at *
    go_enter Try.func11, Try.ntmps11
    go_wp2
    refine bodyPost_ret (v := szV ⟨k, ty, fr, tt, id, pl.take 70⟩ (.slice p 70 c)) (by simp [szV, results, Try.results11, go_sem]) rfl ⟨_, rfl, ?_, ?_⟩
    · exact hTn.out.below (belowA (below1 w _) _)
    · exact belowA (below1 w _) _
  · have e : z.pl.take 70 = z.pl := List.take_of_length_le (by omega)
    rw [e]
    have hTn := Lib.hid hT
    obtain ⟨p, c, rfl, hcap, hcapm, -⟩ := hT
    have hi : ¬ (70 : Int) < z.pl.length := by omega
    have h9 : (z.pl.length : Int) ≤ 9223372036854775807 := by unfold maxLen at hcapm; omega
    clear hT70 e
    unfold szV
    obtain ⟨k, ty, fr, tt, id, pl⟩ := z
    simp only at hi h9 h70 hcap hTn ⊢
    generalize pl.length = n at *
    go_enter Try.func11, Try.ntmps11
    go_wp2
    refine bodyPost_ret (v := szV ⟨k, ty, fr, tt, id, pl⟩ (.slice p n c)) (by simp [szV, results, Try.results11, go_sem]) rfl ⟨_, rfl, ?_, ?_⟩
    · exact hTn.out.below (belowA (below1 w _) _)
    · exact belowA (below1 w _) _
end Go.Proofs.Ytpgojinfhfipeaa
