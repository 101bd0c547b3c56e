/-
  The reference's answer with a condition (Error). No condition.
-/
import Derived.Test.YtpgojinfhfipeaaStRef
namespace Go.Proofs.Ytpgojinfhfipeaa
set_option linter.unusedVariables false
set_option linter.unusedSimpArgs false
open Go.RowKit Go.MapKept
theorem keepB6ad {W : World} {B : Nat} {c0 c1 c2 c3 c4 c5 : Value} (h : W.drew.cell? ⟨B, 0, none⟩ = some c0 ∧ W.drew.cell? ⟨B, 1, none⟩ = some c1 ∧ W.drew.cell? ⟨B, 2, none⟩ = some c2 ∧ W.drew.cell? ⟨B, 3, none⟩ = some c3 ∧ W.drew.cell? ⟨B, 4, none⟩ = some c4 ∧ W.drew.cell? ⟨B, 5, none⟩ = some c5 ∧ B < W.drew.heap.size) (o : Obj) :
    (W.alloc o).drew.cell? ⟨B, 0, none⟩ = some c0 ∧ (W.alloc o).drew.cell? ⟨B, 1, none⟩ = some c1 ∧ (W.alloc o).drew.cell? ⟨B, 2, none⟩ = some c2 ∧ (W.alloc o).drew.cell? ⟨B, 3, none⟩ = some c3 ∧ (W.alloc o).drew.cell? ⟨B, 4, none⟩ = some c4 ∧ (W.alloc o).drew.cell? ⟨B, 5, none⟩ = some c5 ∧ B < (W.alloc o).drew.heap.size := by
  obtain ⟨h0, h1, h2, h3, h4, h5, h6⟩ := h
  have hh : ∀ Y : World, Y.drew.heap = Y.heap := fun _ => rfl
  rw [hh] at h6
  have hc : ∀ i, (W.alloc o).drew.cell? ⟨B, i, none⟩ = W.drew.cell? ⟨B, i, none⟩ := fun i => World.cell?_of_block (by rw [hh, hh]; exact (heap_alloc W o).2 B h6)
  exact ⟨(hc _).trans h0, (hc _).trans h1, (hc _).trans h2, (hc _).trans h3, (hc _).trans h4, (hc _).trans h5, by rw [hh, World.size_alloc]; omega⟩
set_option maxHeartbeats 1000000 in
theorem error0_any (z : Sz) (sv : Value) (c : Int) (w : World) (hsv : ∃ a n c, sv = .slice a n c) :
    Calls Try.prog 18 #[szV z sv, .int .i64 c] w fun e w' => ∃ sv', e = .returned (szV (errZ z c) sv') ∧ TkF w.heap.size w' sv' (errZ z c).pl ∧ Below w.heap.size w w' := by
  obtain ⟨sa, sn, sc, rfl⟩ := hsv
  have hZ : Hid (errZ z c = ⟨z.k, errL, z.tt, z.fr, z.id, (errZ z c).pl⟩) := Lib.hid rfl
  have hPL : Hid ((errZ z c).pl = elemL errL [(tyL, typeL c)] (elemL (nameL c) [] [])) := Lib.hid rfl
  generalize (errZ z c).pl = PL at *
  unfold szV at *
  obtain ⟨k0, ty, fr, tt, id, pl0⟩ := z
  simp only at hZ hPL ⊢
  have hs0 : Below w.heap.size w ((w.alloc (.cells #[.int .u8 k0, .string ⟨ty.toArray⟩, .string ⟨fr.toArray⟩, .string ⟨tt.toArray⟩, .string ⟨id.toArray⟩, .slice sa sn sc] 25)).alloc (.cells #[.int .u8 0, .string ⟨#[]⟩, .string ⟨#[]⟩, .string ⟨#[]⟩, .string ⟨#[]⟩, .slice none 0 0] 25)) := belowA (below1 w _) _
  replace hs0 := Lib.hid hs0
  go_enter Try.func18, Try.ntmps18
  go_wp2_with (first
    | (go_at_call 21
       refine (name0_any c _).mono ?_
       rintro e w1 ⟨rfl, rfl⟩)
    | (go_at_call 31
       refine (refElement_any (nameL c) _ _ [] [] _ (at_nil _ 0 (Nat.zero_le _)) (by simp) (tk_nil _ 0 (Nat.zero_le _)) (by simp) (by simp)).mono ?_
       rintro e w2 ⟨v2, rfl, hF2, hb2⟩
       obtain ⟨v2a, v2n, v2c, rfl⟩ : ∃ a n c, v2 = .slice a n c := (by obtain ⟨a, c, h, -⟩ := hF2.tks; exact ⟨a, _, c, h⟩)
       have hT2 := hF2.tks
       have hR2 := res_new0 hb2
       have hX2 := box_new0 hb2
       have hB2 : Hid (Below w.heap.size w w2) := Lib.hid (belowT hs0.out hb2)
       clear hF2
       replace hT2 := Lib.hid hT2
       replace hb2 := Lib.hid hb2))
  obtain ⟨xc, -, xl⟩ := obj_cells hX2
  have hS0 : w2.drew.cell? ⟨w.heap.size, 0, none⟩ = some (.int .u8 k0) ∧ w2.drew.cell? ⟨w.heap.size, 1, none⟩ = some (.string ⟨ty.toArray⟩) ∧ w2.drew.cell? ⟨w.heap.size, 2, none⟩ = some (.string ⟨fr.toArray⟩) ∧ w2.drew.cell? ⟨w.heap.size, 3, none⟩ = some (.string ⟨tt.toArray⟩) ∧ w2.drew.cell? ⟨w.heap.size, 4, none⟩ = some (.string ⟨id.toArray⟩) ∧ w2.drew.cell? ⟨w.heap.size, 5, none⟩ = some (.slice sa sn sc) ∧ w.heap.size < w2.drew.heap.size := ⟨xc 0, xc 1, xc 2, xc 3, xc 4, xc 5, xl⟩
  clear xc xl hX2
  replace hR2 := Lib.hid hR2
  have hl2 : Hid (w.heap.size + 1 < w2.heap.size) := Lib.hid (Array.getElem?_eq_some_iff.1 hR2.out).1
  go_region_held3 (fun W => W.cell? ⟨w.heap.size, 0, none⟩ = some (.int .u8 k0) ∧ W.cell? ⟨w.heap.size, 1, none⟩ = some (.string ⟨ty.toArray⟩) ∧ W.cell? ⟨w.heap.size, 2, none⟩ = some (.string ⟨fr.toArray⟩) ∧ W.cell? ⟨w.heap.size, 3, none⟩ = some (.string ⟨tt.toArray⟩) ∧ W.cell? ⟨w.heap.size, 4, none⟩ = some (.string ⟨id.toArray⟩) ∧ W.cell? ⟨w.heap.size, 5, none⟩ = some (.slice sa sn sc) ∧ w.heap.size < W.heap.size)
    (first | with_reducible assumption | with_reducible exact keepB6s (by assumption) (by omega) _ _ _ _ _ _ | with_reducible exact keepB6ad (by assumption) _ | with_reducible exact keepB6 (by assumption) hb5.out)
    (first
      | (go_at_call 35
         refine (type0_any c _).mono ?_
         rintro e w4 ⟨rfl, rfl⟩)
      | (go_at_call 31
         refine (refElement_any errL _ _ [(tyL, typeL c)] (elemL (nameL c) [] []) _ (at_one _ w2.heap.size (by simp) 1 (by decide) (by decide) tyL (typeL c) (by simp [tyL]) (by simp)) (by simp) (hT2.out.below (below1 w2 _).drew) (by simp [elemL]) (by intro tk ht; simp [elemL] at ht; rcases ht with rfl | rfl <;> simp)).mono ?_
         rintro e w5 ⟨v5, rfl, hF5, hb5⟩
         obtain ⟨v5a, v5n, v5c, rfl⟩ : ∃ a n c, v5 = .slice a n c := (by obtain ⟨a, c, h, -⟩ := hF5.tks; exact ⟨a, _, c, h⟩)
         rw [← hPL.out] at hF5
         obtain ⟨hcB, hzB, -⟩ := obj_cells ((hb5.block _ (Nat.lt_trans hl2.out (by simp))).trans (obj_alloc hR2.out))
         replace hF5 := Lib.hid hF5
         replace hb5 := Lib.hid hb5))
  all_goals go_wp2_with fail
  have hl2' := hl2.out
  have hF' := hF5.out
  rw [show ∀ (Y : World) (o : Obj), (Y.alloc o).drew.heap.size = Y.heap.size + 1 from fun Y o => by show (Y.alloc o).heap.size = _; simp] at hF'
  rw [hZ.out]
  refine bodyPost_ret (v := szV ⟨k0, errL, tt, fr, id, PL⟩ (.slice v5a v5n v5c)) (by simp [szV, errL, results, Try.results18, go_sem, hcB, hzB]) rfl ⟨_, rfl, (hF'.set6F (by omega) _ _ _ _ _ _).mono (by omega), ?_⟩
  exact set6 (belowT ((belowA hB2.out _).drew) hb5.out) (by omega) _ _ _ _ _ _
end Go.Proofs.Ytpgojinfhfipeaa
