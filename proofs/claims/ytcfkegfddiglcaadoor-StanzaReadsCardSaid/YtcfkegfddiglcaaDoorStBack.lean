/-
  The way back of a stanza, and answers to it, by the program. Condition: at most 1000 tokens.
-/
import Derived.Test.YtcfkegfddiglcaaDoorStDec
import Derived.Test.YtcfkegfddiglcaaDoorFltAll
namespace Go.Proofs.YtcfkegfddiglcaaDoor
set_option linter.unusedVariables false
set_option linter.unusedSimpArgs false
open Go.RowKit Go.MapKept
theorem keep3 {W w' : World} {B : Nat} {x y z : Value} (h : W.cell? ⟨B, 2, none⟩ = some x ∧ W.cell? ⟨B, 3, none⟩ = some y ∧ W.cell? ⟨B, 4, none⟩ = some z ∧ B < W.heap.size) (hb : Below W.heap.size W w') : w'.cell? ⟨B, 2, none⟩ = some x ∧ w'.cell? ⟨B, 3, none⟩ = some y ∧ w'.cell? ⟨B, 4, none⟩ = some z ∧ B < w'.heap.size := by
  obtain ⟨h1, h2, h3, h4⟩ := h
  obtain ⟨hc, -⟩ := bat hb B h4
  exact ⟨(hc _).trans h1, (hc _).trans h2, (hc _).trans h3, Nat.lt_of_lt_of_le h4 hb.size⟩
theorem keep3s {W : World} {B b : Nat} {x y z : Value} (h : W.cell? ⟨B, 2, none⟩ = some x ∧ W.cell? ⟨B, 3, none⟩ = some y ∧ W.cell? ⟨B, 4, none⟩ = some z ∧ B < W.heap.size) (hne : B ≠ b) (v0 v1 v2 v3 v4 v5 : Value) :
    ((((((W.setCell ⟨b, 0, none⟩ v0).setCell ⟨b, 1, none⟩ v1).setCell ⟨b, 2, none⟩ v2).setCell ⟨b, 3, none⟩ v3).setCell ⟨b, 4, none⟩ v4).setCell ⟨b, 5, none⟩ v5).cell? ⟨B, 2, none⟩ = some x ∧ ((((((W.setCell ⟨b, 0, none⟩ v0).setCell ⟨b, 1, none⟩ v1).setCell ⟨b, 2, none⟩ v2).setCell ⟨b, 3, none⟩ v3).setCell ⟨b, 4, none⟩ v4).setCell ⟨b, 5, none⟩ v5).cell? ⟨B, 3, none⟩ = some y ∧ ((((((W.setCell ⟨b, 0, none⟩ v0).setCell ⟨b, 1, none⟩ v1).setCell ⟨b, 2, none⟩ v2).setCell ⟨b, 3, none⟩ v3).setCell ⟨b, 4, none⟩ v4).setCell ⟨b, 5, none⟩ v5).cell? ⟨B, 4, none⟩ = some z ∧ B < ((((((W.setCell ⟨b, 0, none⟩ v0).setCell ⟨b, 1, none⟩ v1).setCell ⟨b, 2, none⟩ v2).setCell ⟨b, 3, none⟩ v3).setCell ⟨b, 4, none⟩ v4).setCell ⟨b, 5, none⟩ v5).heap.size := by
  obtain ⟨h1, h2, h3, h4⟩ := h
  have hc : ∀ i, ((((((W.setCell ⟨b, 0, none⟩ v0).setCell ⟨b, 1, none⟩ v1).setCell ⟨b, 2, none⟩ v2).setCell ⟨b, 3, none⟩ v3).setCell ⟨b, 4, none⟩ v4).setCell ⟨b, 5, none⟩ v5).cell? ⟨B, i, none⟩ = W.cell? ⟨B, i, none⟩ := fun i => World.cell?_of_block (set6o W hne v0 v1 v2 v3 v4 v5)
  exact ⟨(hc _).trans h1, (hc _).trans h2, (hc _).trans h3, by rw [set6s]; exact h4⟩
theorem res_new {w w1 : World} {cs zs : Array Value} {t t' : TypeId} (hb : Below ((w.alloc (.cells cs t)).alloc (.cells zs t')).drew.heap.size ((w.alloc (.cells cs t)).alloc (.cells zs t')).drew w1) : (∀ o, w1.cell? ⟨w.heap.size + 1, o, none⟩ = zs[o]?) ∧ (∀ o, w1.frozen? ⟨w.heap.size + 1, o, none⟩ = false) := by
  have h0 : ((w.alloc (.cells cs t)).alloc (.cells zs t')).drew.heap[w.heap.size + 1]? = some (.cells zs t') := by
    have := (heap_alloc (w.alloc (.cells cs t)) (.cells zs t')).1
    rw [World.size_alloc] at this
    exact this
  have h1 : w.heap.size + 1 < ((w.alloc (.cells cs t)).alloc (.cells zs t')).drew.heap.size := (Array.getElem?_eq_some_iff.1 h0).1
  obtain ⟨hc, hf, -⟩ := obj_cells ((hb.block _ h1).trans h0)
  exact ⟨hc, hf⟩
theorem bdZ (k : Int) (a b c d : ByteArray) (va : Option Addr) (vn vc : Nat) (w : World) : (Instr.build 25 #[(0, .int .u8 k), (1, .string a), (2, .string b), (3, .string c), (4, .string d), (5, .slice va vn vc)]).run Tryd.prog w = .ok (.agg #[.int .u8 k, .string a, .string b, .string c, .string d, .slice va vn vc]) w := by kernel_rfl
theorem TkF.set6F {n : Nat} {w : World} {v : Value} {l : List Tk} (h : TkF n w v l) {B : Nat} (hB : B < n) (v0 v1 v2 v3 v4 v5 : Value) : TkF n ((((((w.setCell ⟨B, 0, none⟩ v0).setCell ⟨B, 1, none⟩ v1).setCell ⟨B, 2, none⟩ v2).setCell ⟨B, 3, none⟩ v3).setCell ⟨B, 4, none⟩ v4).setCell ⟨B, 5, none⟩ v5) v l :=
  h.keep (by rw [set6s]; exact Nat.le_refl _) (fun b h1 _ => set6o w (by omega) _ _ _ _ _ _)
theorem two_size (w : World) (o o' : Obj) : ((w.alloc o).alloc o').drew.heap.size = w.heap.size + 2 := by
  show ((w.alloc o).alloc o').heap.size = _
  simp
set_option maxHeartbeats 300000 in
theorem back_any (z : Sz) (sv pv : Value) (k : Nat) (t : List UInt8) (pl : List Tk) (w : World) (h : TkS w pv pl) (hl : pl.length ≤ 1000) (hat : ∀ tk ∈ pl, tk.as.length * 32 ≤ 140737488351232) (hsv : ∃ a n c, sv = .slice a n c) :
    Calls Tryd.prog 36 #[szV z sv, .int .u8 k, .string ⟨t.toArray⟩, pv] w fun e w' => ∃ sv', e = .returned (szV ⟨k, t, z.tt, z.fr, z.id, pl⟩ sv') ∧ TkF w.heap.size w' sv' pl ∧ Below w.heap.size w w' := by
  obtain ⟨sa, sn, sc, rfl⟩ := hsv
  obtain ⟨pa, pc, rfl⟩ : ∃ a c, pv = .slice a pl.length c := by obtain ⟨a, c, h, -⟩ := h; exact ⟨a, c, h⟩
  have hin : Hid (∀ W, Below w.heap.size w W → Calls Tryd.prog 10 #[.slice pa pl.length pc] W fun e w' => ∃ v', e = .returned v' ∧ TkF W.heap.size w' v' pl ∧ Below W.heap.size W w') := Lib.hid fun W hb => inside_any _ pl W (h.below hb) hl hat
  generalize pl.length = n at hin ⊢
  unfold szV
  obtain ⟨k0, ty, fr, tt, id, pl0⟩ := z
  simp only
  have hbd := bdZ
  go_enter Tryd.func36, Tryd.ntmps36
  go_wp2_with fail
  have hs0 : Below w.heap.size w (((w.alloc (.cells #[.int .u8 k0, .string ⟨ty.toArray⟩, .string ⟨fr.toArray⟩, .string ⟨tt.toArray⟩, .string ⟨id.toArray⟩, .slice sa sn sc] 25)).alloc (.cells #[.int .u8 0, .string ⟨#[]⟩, .string ⟨#[]⟩, .string ⟨#[]⟩, .string ⟨#[]⟩, .slice none 0 0] 25)).drew) := (belowA (below1 w _) _).drew
  have hS0 : (((w.alloc (.cells #[.int .u8 k0, .string ⟨ty.toArray⟩, .string ⟨fr.toArray⟩, .string ⟨tt.toArray⟩, .string ⟨id.toArray⟩, .slice sa sn sc] 25)).alloc (.cells #[.int .u8 0, .string ⟨#[]⟩, .string ⟨#[]⟩, .string ⟨#[]⟩, .string ⟨#[]⟩, .slice none 0 0] 25)).drew).cell? ⟨w.heap.size, 2, none⟩ = some (.string ⟨fr.toArray⟩) ∧ (((w.alloc (.cells #[.int .u8 k0, .string ⟨ty.toArray⟩, .string ⟨fr.toArray⟩, .string ⟨tt.toArray⟩, .string ⟨id.toArray⟩, .slice sa sn sc] 25)).alloc (.cells #[.int .u8 0, .string ⟨#[]⟩, .string ⟨#[]⟩, .string ⟨#[]⟩, .string ⟨#[]⟩, .slice none 0 0] 25)).drew).cell? ⟨w.heap.size, 3, none⟩ = some (.string ⟨tt.toArray⟩) ∧ (((w.alloc (.cells #[.int .u8 k0, .string ⟨ty.toArray⟩, .string ⟨fr.toArray⟩, .string ⟨tt.toArray⟩, .string ⟨id.toArray⟩, .slice sa sn sc] 25)).alloc (.cells #[.int .u8 0, .string ⟨#[]⟩, .string ⟨#[]⟩, .string ⟨#[]⟩, .string ⟨#[]⟩, .slice none 0 0] 25)).drew).cell? ⟨w.heap.size, 4, none⟩ = some (.string ⟨id.toArray⟩) ∧ w.heap.size < (((w.alloc (.cells #[.int .u8 k0, .string ⟨ty.toArray⟩, .string ⟨fr.toArray⟩, .string ⟨tt.toArray⟩, .string ⟨id.toArray⟩, .slice sa sn sc] 25)).alloc (.cells #[.int .u8 0, .string ⟨#[]⟩, .string ⟨#[]⟩, .string ⟨#[]⟩, .string ⟨#[]⟩, .slice none 0 0] 25)).drew).heap.size := ⟨by simp, by simp, by simp, by simp <;> omega⟩
  go_region_held3 (fun W => W.cell? ⟨w.heap.size, 2, none⟩ = some (.string ⟨fr.toArray⟩) ∧ W.cell? ⟨w.heap.size, 3, none⟩ = some (.string ⟨tt.toArray⟩) ∧ W.cell? ⟨w.heap.size, 4, none⟩ = some (.string ⟨id.toArray⟩) ∧ w.heap.size < W.heap.size)
    (first | with_reducible assumption | with_reducible exact keep3s (by assumption) (by omega) _ _ _ _ _ _ | with_reducible exact keep3 (by assumption) hb.out)
    (first | (go_at_call 10; refine (hin.out _ (by assumption)).mono ?_; rintro e w1 ⟨v', rfl, hF, hb⟩; obtain ⟨va, vn, vc', rfl⟩ : ∃ a n c, v' = .slice a n c := (by obtain ⟨a, c, h, -⟩ := hF.tks; exact ⟨a, _, c, h⟩); obtain ⟨hcB, hzB⟩ := res_new hb; replace hF := Lib.hid hF; replace hb := Lib.hid hb))
  all_goals go_wp2_with fail
  have hF' := hF.out
  rw [two_size] at hF'
  refine bodyPost_ret (v := szV ⟨k, t, tt, fr, id, pl⟩ (.slice va vn vc')) (by simp [szV, results, Tryd.results36, go_sem, hcB, hzB]) rfl ⟨_, rfl, (hF'.set6F (by omega) _ _ _ _ _ _).mono (by omega), ?_⟩
  exact set6 (belowT hs0 hb.out) (by omega) _ _ _ _ _ _
end Go.Proofs.YtcfkegfddiglcaaDoor
