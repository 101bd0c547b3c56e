/-
  Answers to a stanza (Result, Error), by the program. Condition: at most 1000 tokens in the payload.
-/
import Derived.Test.YtcfkegfddiglcaaDoorStBack
namespace Go.Proofs.YtcfkegfddiglcaaDoor
set_option linter.unusedVariables false
set_option linter.unusedSimpArgs false
open Go.RowKit Go.MapKept
theorem keepB6 {W w' : World} {B : Nat} {c0 c1 c2 c3 c4 c5 : Value} (h : W.cell? ⟨B, 0, none⟩ = some c0 ∧ W.cell? ⟨B, 1, none⟩ = some c1 ∧ W.cell? ⟨B, 2, none⟩ = some c2 ∧ W.cell? ⟨B, 3, none⟩ = some c3 ∧ W.cell? ⟨B, 4, none⟩ = some c4 ∧ W.cell? ⟨B, 5, none⟩ = some c5 ∧ B < W.heap.size) (hb : Below W.heap.size W w') :
    w'.cell? ⟨B, 0, none⟩ = some c0 ∧ w'.cell? ⟨B, 1, none⟩ = some c1 ∧ w'.cell? ⟨B, 2, none⟩ = some c2 ∧ w'.cell? ⟨B, 3, none⟩ = some c3 ∧ w'.cell? ⟨B, 4, none⟩ = some c4 ∧ w'.cell? ⟨B, 5, none⟩ = some c5 ∧ B < w'.heap.size := by
  obtain ⟨h0, h1, h2, h3, h4, h5, h6⟩ := h
  obtain ⟨hc, -⟩ := bat hb B h6
  exact ⟨(hc _).trans h0, (hc _).trans h1, (hc _).trans h2, (hc _).trans h3, (hc _).trans h4, (hc _).trans h5, Nat.lt_of_lt_of_le h6 hb.size⟩
theorem keepB6a {W : World} {B : Nat} {c0 c1 c2 c3 c4 c5 : Value} (h : W.cell? ⟨B, 0, none⟩ = some c0 ∧ W.cell? ⟨B, 1, none⟩ = some c1 ∧ W.cell? ⟨B, 2, none⟩ = some c2 ∧ W.cell? ⟨B, 3, none⟩ = some c3 ∧ W.cell? ⟨B, 4, none⟩ = some c4 ∧ W.cell? ⟨B, 5, none⟩ = some c5 ∧ B < W.heap.size) (o : Obj) :
    (W.alloc o).cell? ⟨B, 0, none⟩ = some c0 ∧ (W.alloc o).cell? ⟨B, 1, none⟩ = some c1 ∧ (W.alloc o).cell? ⟨B, 2, none⟩ = some c2 ∧ (W.alloc o).cell? ⟨B, 3, none⟩ = some c3 ∧ (W.alloc o).cell? ⟨B, 4, none⟩ = some c4 ∧ (W.alloc o).cell? ⟨B, 5, none⟩ = some c5 ∧ B < (W.alloc o).heap.size := keepB6 h (below1 W o)
theorem keepB6s {W : World} {B b : Nat} {c0 c1 c2 c3 c4 c5 : Value} (h : W.cell? ⟨B, 0, none⟩ = some c0 ∧ W.cell? ⟨B, 1, none⟩ = some c1 ∧ W.cell? ⟨B, 2, none⟩ = some c2 ∧ W.cell? ⟨B, 3, none⟩ = some c3 ∧ W.cell? ⟨B, 4, none⟩ = some c4 ∧ W.cell? ⟨B, 5, none⟩ = some c5 ∧ B < W.heap.size) (hne : B ≠ b) (v0 v1 v2 v3 v4 v5 : Value) :
    ((((((W.setCell ⟨b, 0, none⟩ v0).setCell ⟨b, 1, none⟩ v1).setCell ⟨b, 2, none⟩ v2).setCell ⟨b, 3, none⟩ v3).setCell ⟨b, 4, none⟩ v4).setCell ⟨b, 5, none⟩ v5).cell? ⟨B, 0, none⟩ = some c0 ∧ ((((((W.setCell ⟨b, 0, none⟩ v0).setCell ⟨b, 1, none⟩ v1).setCell ⟨b, 2, none⟩ v2).setCell ⟨b, 3, none⟩ v3).setCell ⟨b, 4, none⟩ v4).setCell ⟨b, 5, none⟩ v5).cell? ⟨B, 1, none⟩ = some c1 ∧ ((((((W.setCell ⟨b, 0, none⟩ v0).setCell ⟨b, 1, none⟩ v1).setCell ⟨b, 2, none⟩ v2).setCell ⟨b, 3, none⟩ v3).setCell ⟨b, 4, none⟩ v4).setCell ⟨b, 5, none⟩ v5).cell? ⟨B, 2, none⟩ = some c2 ∧ ((((((W.setCell ⟨b, 0, none⟩ v0).setCell ⟨b, 1, none⟩ v1).setCell ⟨b, 2, none⟩ v2).setCell ⟨b, 3, none⟩ v3).setCell ⟨b, 4, none⟩ v4).setCell ⟨b, 5, none⟩ v5).cell? ⟨B, 3, none⟩ = some c3 ∧ ((((((W.setCell ⟨b, 0, none⟩ v0).setCell ⟨b, 1, none⟩ v1).setCell ⟨b, 2, none⟩ v2).setCell ⟨b, 3, none⟩ v3).setCell ⟨b, 4, none⟩ v4).setCell ⟨b, 5, none⟩ v5).cell? ⟨B, 4, none⟩ = some c4 ∧ ((((((W.setCell ⟨b, 0, none⟩ v0).setCell ⟨b, 1, none⟩ v1).setCell ⟨b, 2, none⟩ v2).setCell ⟨b, 3, none⟩ v3).setCell ⟨b, 4, none⟩ v4).setCell ⟨b, 5, none⟩ v5).cell? ⟨B, 5, none⟩ = some c5 ∧ B < ((((((W.setCell ⟨b, 0, none⟩ v0).setCell ⟨b, 1, none⟩ v1).setCell ⟨b, 2, none⟩ v2).setCell ⟨b, 3, none⟩ v3).setCell ⟨b, 4, none⟩ v4).setCell ⟨b, 5, none⟩ v5).heap.size := by
  obtain ⟨h0, h1, h2, h3, h4, h5, h6⟩ := h
  have hc : ∀ i, ((((((W.setCell ⟨b, 0, none⟩ v0).setCell ⟨b, 1, none⟩ v1).setCell ⟨b, 2, none⟩ v2).setCell ⟨b, 3, none⟩ v3).setCell ⟨b, 4, none⟩ v4).setCell ⟨b, 5, none⟩ v5).cell? ⟨B, i, none⟩ = W.cell? ⟨B, i, none⟩ := fun i => World.cell?_of_block (set6o W hne v0 v1 v2 v3 v4 v5)
  exact ⟨(hc _).trans h0, (hc _).trans h1, (hc _).trans h2, (hc _).trans h3, (hc _).trans h4, (hc _).trans h5, by rw [set6s]; exact h6⟩
theorem res_new0 {w w1 : World} {cs zs : Array Value} {t t' : TypeId} (hb : Below ((w.alloc (.cells cs t)).alloc (.cells zs t')).heap.size ((w.alloc (.cells cs t)).alloc (.cells zs t')) w1) : w1.heap[w.heap.size + 1]? = some (.cells zs t') := by
  have h0 : ((w.alloc (.cells cs t)).alloc (.cells zs t')).heap[w.heap.size + 1]? = some (.cells zs t') := by
    have := (heap_alloc (w.alloc (.cells cs t)) (.cells zs t')).1
    rw [World.size_alloc] at this
    exact this
  exact (hb.block _ (Array.getElem?_eq_some_iff.1 h0).1).trans h0
theorem box_new0 {w w1 : World} {cs zs : Array Value} {t t' : TypeId} (hb : Below ((w.alloc (.cells cs t)).alloc (.cells zs t')).heap.size ((w.alloc (.cells cs t)).alloc (.cells zs t')) w1) : w1.heap[w.heap.size]? = some (.cells cs t) := by
  have h0 : (w.alloc (.cells cs t)).heap[w.heap.size]? = some (.cells cs t) := (heap_alloc w _).1
  have h1 : ((w.alloc (.cells cs t)).alloc (.cells zs t')).heap[w.heap.size]? = some (.cells cs t) := obj_alloc h0
  exact (hb.block _ (Array.getElem?_eq_some_iff.1 h1).1).trans h1
set_option maxHeartbeats 1000000 in
theorem error_any (z : Sz) (sv : Value) (c : Int) (w : World) (hsv : ∃ a n c, sv = .slice a n c) :
    Calls Tryd.prog 18 #[szV z sv, .int .i64 c] w fun e w' => ∃ sv', e = .returned (szV (errZ z c) sv') ∧ TkF w.heap.size w' sv' (errZ z c).pl ∧ Below w.heap.size w w' := by
  have hpl : ((errZ z c).pl).length ≤ 1000 := by simp [errZ, elemL]
  have hat : ∀ tk ∈ (errZ z c).pl, tk.as.length * 32 ≤ 140737488351232 := by
    intro tk ht
    simp [errZ, elemL] at ht
    rcases ht with rfl | rfl | rfl | rfl <;> simp
  have hbk : Hid (∀ W pv, TkS W pv (errZ z c).pl → Calls Tryd.prog 36 #[szV z sv, .int .u8 z.k, .string ⟨#[101, 114, 114, 111, 114]⟩, pv] W fun e w' => ∃ sv', e = .returned (szV ⟨z.k, errL, z.tt, z.fr, z.id, (errZ z c).pl⟩ sv') ∧ TkF W.heap.size w' sv' (errZ z c).pl ∧ Below W.heap.size W w') := Lib.hid fun W pv h => back_any z sv pv z.k errL (errZ z c).pl W h hpl hat hsv
  obtain ⟨sa, sn, sc, rfl⟩ := hsv
  have hZ : Hid (errZ z c = ⟨z.k, errL, z.tt, z.fr, z.id, (errZ z c).pl⟩) := Lib.hid rfl
  have hPL : Hid ((errZ z c).pl = elemL errL [(tyL, typeL c)] (elemL (nameL c) [] [])) := Lib.hid rfl
  generalize (errZ z c).pl = PL at *
  unfold szV at *
  obtain ⟨k0, ty, fr, tt, id, pl0⟩ := z
  simp only at hbk hZ hPL ⊢
  clear hpl hat
  have hs0 : Below w.heap.size w ((w.alloc (.cells #[.int .u8 k0, .string ⟨ty.toArray⟩, .string ⟨fr.toArray⟩, .string ⟨tt.toArray⟩, .string ⟨id.toArray⟩, .slice sa sn sc] 25)).alloc (.cells #[.int .u8 0, .string ⟨#[]⟩, .string ⟨#[]⟩, .string ⟨#[]⟩, .string ⟨#[]⟩, .slice none 0 0] 25)) := belowA (below1 w _) _
  replace hs0 := Lib.hid hs0
  have tok1 := Lib.hid True.intro
  go_enter Tryd.func18, Tryd.ntmps18
  go_wp2_with (first
    | (go_at_call 35
       refine (name_any c _).mono ?_
       rintro e w1 ⟨rfl, hb1⟩
       replace hb1 := Lib.hid hb1)
    | (go_at_call 34
       refine (element_any (nameL c) _ _ [] [] _ (at_nil _ 0 (Nat.zero_le _)) (by simp) (tk_nil _ 0 (Nat.zero_le _)) (by simp) (by simp)).mono ?_
       rintro e w2 ⟨v2, rfl, hT2, hb2⟩
       obtain ⟨v2a, v2n, v2c, rfl⟩ : ∃ a n c, v2 = .slice a n c := (by obtain ⟨a, c, h, -⟩ := hT2; exact ⟨a, _, c, h⟩)
       have hb12 := hb1.out.trans (hb2.mono hb1.out.size)
       have hR2 := res_new0 hb12
       have hX2 := box_new0 hb12
       have hB2 : Hid (Below w.heap.size w w2) := Lib.hid (belowT hs0.out hb12)
       replace hT2 := Lib.hid hT2
       replace hb2 := Lib.hid hb2
       replace hb12 := Lib.hid hb12))
  obtain ⟨xc, -, xl⟩ := obj_cells hX2
  have hS0 : w2.drew.cell? ⟨w.heap.size, 0, none⟩ = some (.int .u8 k0) ∧ w2.drew.cell? ⟨w.heap.size, 1, none⟩ = some (.string ⟨ty.toArray⟩) ∧ w2.drew.cell? ⟨w.heap.size, 2, none⟩ = some (.string ⟨fr.toArray⟩) ∧ w2.drew.cell? ⟨w.heap.size, 3, none⟩ = some (.string ⟨tt.toArray⟩) ∧ w2.drew.cell? ⟨w.heap.size, 4, none⟩ = some (.string ⟨id.toArray⟩) ∧ w2.drew.cell? ⟨w.heap.size, 5, none⟩ = some (.slice sa sn sc) ∧ w.heap.size < w2.drew.heap.size := ⟨xc 0, xc 1, xc 2, xc 3, xc 4, xc 5, xl⟩
  have hD : Hid (Below w2.heap.size w2 w2.drew) := Lib.hid (Below.refl _ _).drew
  clear xc xl hX2
  replace hR2 := Lib.hid hR2
  have hl2 : Hid (w.heap.size + 1 < w2.heap.size) := Lib.hid (Array.getElem?_eq_some_iff.1 hR2.out).1
  clear tok1
  go_region_held3 (fun W => W.cell? ⟨w.heap.size, 0, none⟩ = some (.int .u8 k0) ∧ W.cell? ⟨w.heap.size, 1, none⟩ = some (.string ⟨ty.toArray⟩) ∧ W.cell? ⟨w.heap.size, 2, none⟩ = some (.string ⟨fr.toArray⟩) ∧ W.cell? ⟨w.heap.size, 3, none⟩ = some (.string ⟨tt.toArray⟩) ∧ W.cell? ⟨w.heap.size, 4, none⟩ = some (.string ⟨id.toArray⟩) ∧ W.cell? ⟨w.heap.size, 5, none⟩ = some (.slice sa sn sc) ∧ w.heap.size < W.heap.size)
    (first | with_reducible assumption | with_reducible exact keepB6s (by assumption) (by omega) _ _ _ _ _ _ | with_reducible exact keepB6a (by assumption) _ | with_reducible exact keepB6 (by assumption) hb6.out | with_reducible exact keepB6 (by assumption) hb5.out | with_reducible exact keepB6 (by assumption) hb4.out)
    (first
      | (go_at_call 37
         refine (type_any c _).mono ?_
         rintro e w4 ⟨rfl, hb4⟩
         have hT4 := Lib.hid (hT2.out.below (hD.out.trans hb4))
         have hR4 := Lib.hid ((hb4.block _ hl2.out).trans hR2.out)
         have hl4 := Lib.hid (Nat.lt_of_lt_of_le hl2.out hb4.size)
         have hB4 := Lib.hid (belowT (hB2.out.drew) hb4)
         replace hb4 := Lib.hid hb4)
      | (go_at_call 34
         refine (element_any errL _ _ [(tyL, typeL c)] (elemL (nameL c) [] []) _ (at_one _ w4.heap.size (by simp) 1 (by decide) (by decide) tyL (typeL c) (by simp [tyL]) (by simp)) (by simp) (hT4.out.below (below1 _ _)) (by simp [elemL]) (by intro tk ht; simp [elemL] at ht; rcases ht with rfl | rfl <;> simp)).mono ?_
         rintro e w5 ⟨v5, rfl, hT5, hb5⟩
         obtain ⟨v5a, v5n, v5c, rfl⟩ : ∃ a n c, v5 = .slice a n c := (by obtain ⟨a, c, h, -⟩ := hT5; exact ⟨a, _, c, h⟩)
         rw [← hPL.out] at hT5
         have hb45 := (below1 w4 _).trans (hb5.mono (by simp))
         have hR5 := Lib.hid ((hb45.block _ hl4.out).trans hR4.out)
         have hl5 := Lib.hid (Nat.lt_of_lt_of_le hl4.out hb45.size)
         have hB5 := Lib.hid (belowT hB4.out hb45)
         clear hb45
         replace hT5 := Lib.hid hT5
         replace hb5 := Lib.hid hb5)
      | (go_at_call 36
         refine (hbk.out _ _ hT5.out).mono ?_
         rintro e w6 ⟨v6, rfl, hF, hb6⟩
         obtain ⟨v6a, v6n, v6c, rfl⟩ : ∃ a n c, v6 = .slice a n c := (by obtain ⟨a, c, h, -⟩ := hF.tks; exact ⟨a, _, c, h⟩)
         obtain ⟨hcB, hzB, -⟩ := obj_cells ((hb6.block _ hl5.out).trans hR5.out)
         replace hF := Lib.hid hF
         replace hb6 := Lib.hid hb6))
  all_goals go_wp2_with fail
  have hl5' := hl5.out
  rw [hZ.out]
  refine bodyPost_ret (v := szV ⟨k0, errL, tt, fr, id, PL⟩ (.slice v6a v6n v6c)) (by simp [szV, results, Tryd.results18, go_sem, hcB, hzB]) rfl ⟨_, rfl, (hF.out.set6F (by omega) _ _ _ _ _ _).mono (by omega), ?_⟩
  exact set6 (belowT hB5.out hb6.out) (by omega) _ _ _ _ _ _
end Go.Proofs.YtcfkegfddiglcaaDoor
