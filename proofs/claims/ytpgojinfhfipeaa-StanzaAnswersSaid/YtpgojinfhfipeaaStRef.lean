/-
  The reference's answers to a stanza (Result, Error). Condition: at most 998 tokens in the payload.
-/
import Derived.Test.YtpgojinfhfipeaaStAns
import Derived.Test.YtpgojinfhfipeaaWrRefElem
namespace Go.Proofs.Ytpgojinfhfipeaa
set_option linter.unusedVariables false
set_option linter.unusedSimpArgs false
open Go.RowKit Go.MapKept
theorem TkS.mid3 {w : World} {b o N c : Nat} {l : List Tk} (h : TkS w (.slice (some ⟨b, o, none⟩) N c) l) (hN : l.length = N) (h2 : 2 ≤ N) : TkS w (.slice (some ⟨b, o + 4, none⟩) (N - 1 - 1) (N - 1 - 1)) ((l.drop 1).take (l.length - 2)) := by
  subst hN
  obtain ⟨ptr, cap, he, h1, h1', h3⟩ := h.mid h2
  have hlen : ((l.drop 1).take (l.length - 2)).length = l.length - 2 := by simp; omega
  injection he with e1 e2 e3
  subst e1
  have hc : l.length ≤ maxLen := by
    obtain ⟨_, cap', he', g1, g2, -⟩ := h
    omega
  exact ⟨_, l.length - 2, by rw [hlen, Nat.sub_sub], by rw [hlen]; exact Nat.le_refl _, by omega, h3⟩
theorem TkF.mid3 {n : Nat} {w : World} {b o N c : Nat} {nm : List UInt8} {al : Ats} {l : List Tk} (h : TkF n w (.slice (some ⟨b, o, none⟩) N c) (elemL nm al l)) (hN : (elemL nm al l).length = N) : TkF n w (.slice (some ⟨b, o + 4, none⟩) (N - 1 - 1) (N - 1 - 1)) l := fun W h1 h2 => by
  have := (h W h1 h2).mid3 hN (by rw [← hN]; simp [elemL])
  rw [elem_mid] at this
  exact this
theorem keep3sd {W : World} {B b : Nat} {x y z : Value} (h : W.drew.cell? ⟨B, 2, none⟩ = some x ∧ W.drew.cell? ⟨B, 3, none⟩ = some y ∧ W.drew.cell? ⟨B, 4, none⟩ = some z ∧ B < W.drew.heap.size) (hne : B ≠ b) (v0 v1 v2 v3 v4 v5 : Value) :
    ((((((W.setCell ⟨b, 0, none⟩ v0).setCell ⟨b, 1, none⟩ v1).setCell ⟨b, 2, none⟩ v2).setCell ⟨b, 3, none⟩ v3).setCell ⟨b, 4, none⟩ v4).setCell ⟨b, 5, none⟩ v5).drew.cell? ⟨B, 2, none⟩ = some x ∧ ((((((W.setCell ⟨b, 0, none⟩ v0).setCell ⟨b, 1, none⟩ v1).setCell ⟨b, 2, none⟩ v2).setCell ⟨b, 3, none⟩ v3).setCell ⟨b, 4, none⟩ v4).setCell ⟨b, 5, none⟩ v5).drew.cell? ⟨B, 3, none⟩ = some y ∧ ((((((W.setCell ⟨b, 0, none⟩ v0).setCell ⟨b, 1, none⟩ v1).setCell ⟨b, 2, none⟩ v2).setCell ⟨b, 3, none⟩ v3).setCell ⟨b, 4, none⟩ v4).setCell ⟨b, 5, none⟩ v5).drew.cell? ⟨B, 4, none⟩ = some z ∧ B < ((((((W.setCell ⟨b, 0, none⟩ v0).setCell ⟨b, 1, none⟩ v1).setCell ⟨b, 2, none⟩ v2).setCell ⟨b, 3, none⟩ v3).setCell ⟨b, 4, none⟩ v4).setCell ⟨b, 5, none⟩ v5).drew.heap.size := by
  obtain ⟨h1, h2, h3, h4⟩ := h
  have hh : ∀ Y : World, Y.drew.heap = Y.heap := fun _ => rfl
  have hc : ∀ i, ((((((W.setCell ⟨b, 0, none⟩ v0).setCell ⟨b, 1, none⟩ v1).setCell ⟨b, 2, none⟩ v2).setCell ⟨b, 3, none⟩ v3).setCell ⟨b, 4, none⟩ v4).setCell ⟨b, 5, none⟩ v5).drew.cell? ⟨B, i, none⟩ = W.drew.cell? ⟨B, i, none⟩ := fun i => World.cell?_of_block (by rw [hh, hh]; exact set6o W hne v0 v1 v2 v3 v4 v5)
  exact ⟨(hc _).trans h1, (hc _).trans h2, (hc _).trans h3, by rw [hh, set6s, ← hh]; exact h4⟩
theorem TkF.drew {n : Nat} {w : World} {v : Value} {l : List Tk} (h : TkF n w v l) : TkF n w.drew v l := fun W h1 h2 => h W h1 h2
theorem TkF.mid4 {n : Nat} {w : World} {b o N c : Nat} {nm : List UInt8} {al : Ats} {l : List Tk} (h : TkF n w (.slice (some ⟨b, o, none⟩) N c) (elemL nm al l)) (hN : (elemL nm al l).length = N) : TkF n w (.slice (if N = 2 then some ⟨b, o, none⟩ else some ⟨b, o + 4, none⟩) (N - 1 - 1) (N - 1 - 1)) l := by
  split
  · have hl : l = [] := List.length_eq_zero_iff.1 (by simp [elemL] at hN; omega)
    subst hl
    have e : N - 1 - 1 = 0 := by omega
    rw [e]
    exact fun W _ _ => ⟨_, 0, rfl, by simp, by simp, fun h => absurd h (by simp)⟩
  · exact h.mid3 hN
set_option maxHeartbeats 1000000 in
theorem result0_any (z : Sz) (sv pv : Value) (pl : List Tk) (w : World) (h : TkS w pv pl) (hl : pl.length ≤ 1000) (hat : ∀ tk ∈ pl, tk.as.length * 32 ≤ 140737488351232) (hsv : ∃ a n c, sv = .slice a n c) :
    Calls Try.prog 16 #[szV z sv, pv] w fun e w' => ∃ sv', e = .returned (szV (resZ z pl) sv') ∧ TkF w.heap.size w' sv' pl ∧ Below w.heap.size w w' := by
  have hel : Hid (∀ W, Below w.heap.size w W → Calls Try.prog 31 #[.string ⟨#[120]⟩, .slice none 0 0, pv] W fun e w' => ∃ v, e = .returned v ∧ TkF W.heap.size w' v (elemL [120] [] pl) ∧ Below W.heap.size W w') := Lib.hid fun W hb => refElement_any [120] _ pv [] pl W (at_nil _ 0 (Nat.zero_le _)) (by simp) (h.below hb) hl hat
  obtain ⟨sa, sn, sc, rfl⟩ := hsv
  obtain ⟨pa, pc, rfl⟩ : ∃ a c, pv = .slice a pl.length c := by obtain ⟨a, c, h, -⟩ := h; exact ⟨a, c, h⟩
  obtain ⟨N, hN⟩ : ∃ N, (elemL [120] [] pl).length = N := ⟨_, rfl⟩
  have hN2 : 2 ≤ N := by rw [← hN]; simp [elemL]
  have hN3 : N ≤ 1002 := by rw [← hN]; simp [elemL]; omega
  replace hN := Lib.hid hN
  generalize pl.length = n at hel ⊢
  unfold szV at *
  obtain ⟨k0, ty, fr, tt, id, pl0⟩ := z
  simp only at hel ⊢
  have hs0 : Below w.heap.size w ((w.alloc (.cells #[.int .u8 k0, .string ⟨ty.toArray⟩, .string ⟨fr.toArray⟩, .string ⟨tt.toArray⟩, .string ⟨id.toArray⟩, .slice sa sn sc] 25)).alloc (.cells #[.int .u8 0, .string ⟨#[]⟩, .string ⟨#[]⟩, .string ⟨#[]⟩, .string ⟨#[]⟩, .slice none 0 0] 25)) := belowA (below1 w _) _
  go_enter Try.func16, Try.ntmps16
  go_wp2_with (go_at_call 31
               refine (hel.out _ hs0).mono ?_
               rintro e w1 ⟨v', rfl, hF, hb⟩
               obtain ⟨vp, vc, rfl, hvc, hvm, hvp⟩ : ∃ a c, v' = .slice a N c ∧ N ≤ c ∧ c ≤ maxLen ∧ ∃ b o, a = some ⟨b, o, none⟩ := (by obtain ⟨a, c, h, h1, h2, h3⟩ := hF.tks; obtain ⟨b, o, h4, -⟩ := h3 (by rw [hN.out]; omega); rw [hN.out] at h h1; exact ⟨a, c, h, h1, h2, b, o, h4⟩)
               obtain ⟨gb, go, rfl⟩ := hvp
               have hF3 := Lib.hid (hF.mid4 hN.out)
               have hX := box_new0 hb
               obtain ⟨hcB, hzB, hlB⟩ := obj_cells (res_new0 hb)
               replace hF := Lib.hid hF
               replace hb := Lib.hid hb)
  obtain ⟨xc, -, xl⟩ := obj_cells hX
  have hS0 : w1.drew.cell? ⟨w.heap.size, 2, none⟩ = some (.string ⟨fr.toArray⟩) ∧ w1.drew.cell? ⟨w.heap.size, 3, none⟩ = some (.string ⟨tt.toArray⟩) ∧ w1.drew.cell? ⟨w.heap.size, 4, none⟩ = some (.string ⟨id.toArray⟩) ∧ w.heap.size < w1.drew.heap.size := ⟨xc 2, xc 3, xc 4, xl⟩
  have i2 : (2 : Int) ≤ (N : Int) := by omega
  have i3 : (N : Int) ≤ (vc : Int) := by omega
  have i9 : (N : Int) ≤ 1002 := by omega
  have j1 : (1 : Int) ≤ (N : Int) - 1 := by omega
  have j2 : (N : Int) - 1 ≤ (vc : Int) := by omega
  have j3 : (0 : Int) ≤ (N : Int) - 1 := by omega
  have j4 : ((N : Int) - 1).toNat = N - 1 := by omega
  have j5 : 1 ≤ N - 1 := by omega
  have j6 : N - 1 ≤ vc := by omega
  have j7 : IntKind.i64.wrap ((N : Int) - 1) = (N : Int) - 1 := wrap_small _ (by omega) (by omega)
  clear xc xl hX
  go_region_held3 (fun W => W.cell? ⟨w.heap.size, 2, none⟩ = some (.string ⟨fr.toArray⟩) ∧ W.cell? ⟨w.heap.size, 3, none⟩ = some (.string ⟨tt.toArray⟩) ∧ W.cell? ⟨w.heap.size, 4, none⟩ = some (.string ⟨id.toArray⟩) ∧ w.heap.size < W.heap.size)
    (first | with_reducible assumption | with_reducible exact keep3s (by assumption) (by omega) _ _ _ _ _ _ | with_reducible exact keep3sd (by assumption) (by omega) _ _ _ _ _ _) (fail)
  have hF' := hF3.out
  simp only [World.size_alloc] at hF'
  replace hF' := Lib.hid hF'
  clear hF3 hF
  go_wp2_with fail
  · have h2 : N = 2 := by assumption
    have hF2 := hF'.out
    rw [if_pos h2, show N - 1 - 1 = 0 by omega] at hF2
    refine bodyPost_ret (v := szV ⟨1, resL, tt, fr, id, pl⟩ (.slice (some ⟨gb, go, none⟩) 0 0)) (by simp [szV, resL, results, Try.results16, go_sem, hcB, hzB]) rfl ⟨_, rfl, ((hF2.set6F (by omega) _ _ _ _ _ _).mono (by omega)).drew, ?_⟩
    exact (set6 (belowT hs0 hb.out) (by omega) _ _ _ _ _ _).drew
  · have h2 : ¬ N = 2 := by assumption
    have hF2 := hF'.out
    rw [if_neg h2] at hF2
    refine bodyPost_ret (v := szV ⟨1, resL, tt, fr, id, pl⟩ (.slice (some ⟨gb, go + 4, none⟩) (N - 1 - 1) (N - 1 - 1))) (by simp [szV, resL, results, Try.results16, go_sem, hcB, hzB]) rfl ⟨_, rfl, ((hF2.set6F (by omega) _ _ _ _ _ _).mono (by omega)).drew, ?_⟩
    exact (set6 (belowT hs0 hb.out) (by omega) _ _ _ _ _ _).drew
end Go.Proofs.Ytpgojinfhfipeaa
