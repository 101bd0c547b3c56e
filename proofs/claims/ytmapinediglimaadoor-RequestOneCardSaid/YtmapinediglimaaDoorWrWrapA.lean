/-
  An element with attributes about what is right is right, and whole (plain). No condition.
-/
import Derived.Test.YtmapinediglimaaDoorWrWrapPure
namespace Go.Proofs.YtmapinediglimaaDoor
set_option linter.unusedVariables false
set_option linter.unusedSimpArgs false
open Go.RowKit Go.MapKept
theorem wrapA_ops {name : List UInt8} {al : Ats} {l : List Tk} (ht : rightT ⟨1, name, al, []⟩ = true) (hr : (opsTo l l.length).isSome = true) (h7 : ∀ k, k ≤ l.length → depK l k ≤ 7) : ∀ k, k ≤ l.length → ∃ op, opsTo l k = some op ∧ opsTo (elemL name al l) (1 + k) = some (name :: op)
  | 0, _ => ⟨[], rfl, by
      rw [Nat.add_zero]
      show stepT 0 [] ⟨1, name, al, []⟩ = _
      unfold stepT
      rw [ht]
      simp⟩
  | k + 1, hk => by
    obtain ⟨op, h1, h2⟩ := wrapA_ops ht hr h7 k (by omega)
    obtain ⟨op', hop'⟩ := Option.isSome_iff_exists.1 (opsTo_some (m := k + 1) hk hr)
    have hd := depK_ops _ _ hop'
    have h7' := h7 (k + 1) hk
    refine ⟨op', hop', ?_⟩
    have hs : opsTo l (k + 1) = some op' := hop'
    rw [opsTo, h1, List.getElem?_eq_getElem (by omega)] at hs
    rw [show 1 + (k + 1) = (1 + k) + 1 by omega, opsTo, h2, elem_get (by omega), List.getElem?_eq_getElem (by omega)]
    refine stepT_wrap name hs (by omega) ?_
    cases k with
    | zero => left; injection h1 with h1; exact h1.symm
    | succ k =>
      right
      unfold prevK
      rw [if_neg (by omega), if_neg (by omega), show 1 + (k + 1) - 1 = 1 + k by omega, elem_get (by omega)]
      rfl
theorem wrapA_whole {name : List UInt8} {al : Ats} {l : List Tk} (ht : rightT ⟨1, name, al, []⟩ = true) (hr : rightL l = true) (h7 : mostK l l.length < 8) (hl : l.length + 2 ≤ 64) : wholeL (elemL name al l) = true := by
  have hlen : (elemL name al l).length = l.length + 2 := by simp [elemL]
  have ho := right_ops hr
  have hn : nameP name = true := by unfold rightT at ht; simp only [show ((1:Int) = 3) = False by decide, show ((1:Int) = 2) = False by decide, if_false, if_true, Bool.and_eq_true] at ht; exact ht.1.2
  have hw := wrapA_ops ht (by rw [ho]; rfl) (fun k hk => by have := mostK_le l l.length k hk; omega)
  have hlast : opsTo (elemL name al l) (l.length + 2) = some [] := by
    obtain ⟨op, h1, h2⟩ := hw l.length (Nat.le_refl _)
    rw [ho] at h1
    injection h1 with h1
    subst h1
    rw [show l.length + 2 = (1 + l.length) + 1 by omega, opsTo, h2]
    have e : (elemL name al l)[1 + l.length]? = some ⟨2, name, [], []⟩ := by
      unfold elemL
      rw [Nat.add_comm, List.getElem?_cons_succ, List.getElem?_append_right (Nat.le_refl _)]
      simp
    rw [e]
    show stepT _ [name] ⟨2, name, [], []⟩ = _
    unfold stepT
    rw [rightT_end, hn]
    simp
  have hR : rightL (elemL name al l) = true := by
    unfold rightL
    rw [hlen, hlast]
    simp
    omega
  unfold wholeL
  rw [hR, hlen]
  simp only [Bool.true_and, Bool.and_eq_true, decide_eq_true_eq]
  refine ⟨by simp [elemL], fun j hj => ?_⟩
  obtain ⟨op, _, h2⟩ := hw j (by omega)
  rw [Nat.add_comm, h2]
  simp
end Go.Proofs.YtmapinediglimaaDoor
