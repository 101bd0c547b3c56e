/-
  The reference's answers to a stanza (Result, Error). Condition: at most 998 tokens in the payload.
-/
import Derived.Test.YtcfkegfddiglcaaDoorStAns
import Derived.Test.YtcfkegfddiglcaaDoorWrRefElem
namespace Go.Proofs.YtcfkegfddiglcaaDoor
set_option linter.unusedVariables false
set_option linter.unusedSimpArgs false
open Go.RowKit Go.MapKept
theorem TkS.mid3 {w : World} {b o N c : Nat} {l : List Tk} (h : TkS w (.slice (some ⟨b, o, none⟩) N c) l) (hN : l.length = N) (h2 : 2 ≤ N) : TkS w (.slice (some ⟨b, o + 4, none⟩) (N - 1 - 1) (N - 1 - 1)) ((l.drop 1).take (l.length - 2)) := by
  subst hN
  obtain ⟨ptr, cap, he, h1, h1', h3⟩ := h.mid h2
  have hlen : ((l.drop 1).take (l.length - 2)).length = l.length - 2 := by simp; omega
  injection he with e1 e2 e3
  subst e1
  have hc : l.length ≤ maxLen := by
    obtain ⟨_, cap', he', g1, g2, -⟩ := h
    omega
  exact ⟨_, l.length - 2, by rw [hlen, Nat.sub_sub], by rw [hlen]; exact Nat.le_refl _, by omega, h3⟩
theorem TkF.mid3 {n : Nat} {w : World} {b o N c : Nat} {nm : List UInt8} {al : Ats} {l : List Tk} (h : TkF n w (.slice (some ⟨b, o, none⟩) N c) (elemL nm al l)) (hN : (elemL nm al l).length = N) : TkF n w (.slice (some ⟨b, o + 4, none⟩) (N - 1 - 1) (N - 1 - 1)) l := fun W h1 h2 => by
  have := (h W h1 h2).mid3 hN (by rw [← hN]; simp [elemL])
  rw [elem_mid] at this
  exact this
theorem keep3sd {W : World} {B b : Nat} {x y z : Value} (h : W.drew.cell? ⟨B, 2, none⟩ = some x ∧ W.drew.cell? ⟨B, 3, none⟩ = some y ∧ W.drew.cell? ⟨B, 4, none⟩ = some z ∧ B < W.drew.heap.size) (hne : B ≠ b) (v0 v1 v2 v3 v4 v5 : Value) :
    ((((((W.setCell ⟨b, 0, none⟩ v0).setCell ⟨b, 1, none⟩ v1).setCell ⟨b, 2, none⟩ v2).setCell ⟨b, 3, none⟩ v3).setCell ⟨b, 4, none⟩ v4).setCell ⟨b, 5, none⟩ v5).drew.cell? ⟨B, 2, none⟩ = some x ∧ ((((((W.setCell ⟨b, 0, none⟩ v0).setCell ⟨b, 1, none⟩ v1).setCell ⟨b, 2, none⟩ v2).setCell ⟨b, 3, none⟩ v3).setCell ⟨b, 4, none⟩ v4).setCell ⟨b, 5, none⟩ v5).drew.cell? ⟨B, 3, none⟩ = some y ∧ ((((((W.setCell ⟨b, 0, none⟩ v0).setCell ⟨b, 1, none⟩ v1).setCell ⟨b, 2, none⟩ v2).setCell ⟨b, 3, none⟩ v3).setCell ⟨b, 4, none⟩ v4).setCell ⟨b, 5, none⟩ v5).drew.cell? ⟨B, 4, none⟩ = some z ∧ B < ((((((W.setCell ⟨b, 0, none⟩ v0).setCell ⟨b, 1, none⟩ v1).setCell ⟨b, 2, none⟩ v2).setCell ⟨b, 3, none⟩ v3).setCell ⟨b, 4, none⟩ v4).setCell ⟨b, 5, none⟩ v5).drew.heap.size := by
  obtain ⟨h1, h2, h3, h4⟩ := h
  have hh : ∀ Y : World, Y.drew.heap = Y.heap := fun _ => rfl
  have hc : ∀ i, ((((((W.setCell ⟨b, 0, none⟩ v0).setCell ⟨b, 1, none⟩ v1).setCell ⟨b, 2, none⟩ v2).setCell ⟨b, 3, none⟩ v3).setCell ⟨b, 4, none⟩ v4).setCell ⟨b, 5, none⟩ v5).drew.cell? ⟨B, i, none⟩ = W.drew.cell? ⟨B, i, none⟩ := fun i => World.cell?_of_block (by rw [hh, hh]; exact set6o W hne v0 v1 v2 v3 v4 v5)
  exact ⟨(hc _).trans h1, (hc _).trans h2, (hc _).trans h3, by rw [hh, set6s, ← hh]; exact h4⟩
theorem TkF.drew {n : Nat} {w : World} {v : Value} {l : List Tk} (h : TkF n w v l) : TkF n w.drew v l := fun W h1 h2 => h W h1 h2
theorem TkF.mid4 {n : Nat} {w : World} {b o N c : Nat} {nm : List UInt8} {al : Ats} {l : List Tk} (h : TkF n w (.slice (some ⟨b, o, none⟩) N c) (elemL nm al l)) (hN : (elemL nm al l).length = N) : TkF n w (.slice (if N = 2 then some ⟨b, o, none⟩ else some ⟨b, o + 4, none⟩) (N - 1 - 1) (N - 1 - 1)) l := by
  split
  · have hl : l = [] := List.length_eq_zero_iff.1 (by simp [elemL] at hN; omega)
    subst hl
    have e : N - 1 - 1 = 0 := by omega
    rw [e]
    exact fun W _ _ => ⟨_, 0, rfl, by simp, by simp, fun h => absurd h (by simp)⟩
  · exact h.mid3 hN
end Go.Proofs.YtcfkegfddiglcaaDoor
