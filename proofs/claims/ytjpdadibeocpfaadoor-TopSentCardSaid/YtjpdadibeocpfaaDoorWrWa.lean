/-
  An element about what is right is right, and whole (plain).
-/
import Derived.Test.YtjpdadibeocpfaaDoorWrOps
import Derived.Test.YtjpdadibeocpfaaDoorWrEl
namespace Go.Proofs.YtjpdadibeocpfaaDoor
set_option linter.unusedVariables false
set_option linter.unusedSimpArgs false
/-- how deep it is behind k tokens, as the statement reckons it -/
def depK (l : List Tk) : Nat → Int
  | 0 => 0
  | k + 1 => match l[k]? with
    | some tk => if tk.k = 1 then depK l k + 1 else if tk.k = 2 then depK l k - 1 else depK l k
    | none => depK l k
def mostK (l : List Tk) : Nat → Int
  | 0 => 0
  | k + 1 => if depK l (k + 1) > mostK l k then depK l (k + 1) else mostK l k
theorem depK_abs (l : List Tk) : ∀ k : Nat, -(k : Int) ≤ depK l k ∧ depK l k ≤ k
  | 0 => by simp [depK]
  | k + 1 => by
    have ih := depK_abs l k
    unfold depK
    cases l[k]? with
    | none => simp only; omega
    | some tk =>
      simp only
      split
      · omega
      · split <;> omega
theorem mostK_abs (l : List Tk) : ∀ k : Nat, 0 ≤ mostK l k ∧ mostK l k ≤ k
  | 0 => by simp [mostK]
  | k + 1 => by
    have ih := mostK_abs l k
    have h := depK_abs l (k + 1)
    unfold mostK
    split <;> omega
theorem mostK_le (l : List Tk) : ∀ n k, k ≤ n → depK l k ≤ mostK l n
  | 0, k, h => by
    obtain rfl : k = 0 := by omega
    simp [depK, mostK]
  | n + 1, k, h => by
    unfold mostK
    by_cases e : k = n + 1
    · subst e; split <;> omega
    · have ih := mostK_le l n k (by omega)
      split <;> omega
theorem depK_ops {l : List Tk} : ∀ k op, opsTo l k = some op → depK l k = op.length
  | 0, op, h => by injection h with h; subst h; rfl
  | k + 1, op, h => by
    rw [opsTo] at h
    split at h
    · rename_i op0 tk h0 htk
      have ih := depK_ops k op0 h0
      unfold depK
      rw [htk]
      simp only
      unfold stepT at h
      split at h
      · cases h
      split at h
      · rename_i h1; injection h with h; subst h; rw [if_pos h1.1, ih]; simp
      rename_i hn1
      split at h
      · rename_i h2
        injection h with h
        subst h
        rw [if_neg (by rw [h2.1]; decide), if_pos h2.1, ih, List.length_take]
        omega
      split at h
      · rename_i h3
        injection h with h
        subst h
        rw [if_neg (by rw [h3.1]; decide), if_neg (by rw [h3.1]; decide), ih]
      · cases h
    · cases h
theorem stepT_wrap {p q : Int} {op op' : List (List UInt8)} {tk : Tk} (name : List UInt8) (h : stepT p op tk = some op') (h7 : op'.length ≤ 7) (hpq : op = [] ∨ q = p) : stepT q (name :: op) tk = some (name :: op') := by
  unfold stepT at h ⊢
  split at h
  · cases h
  · rename_i hr
    rw [if_neg hr]
    split at h
    · rename_i h1
      injection h with h
      subst h
      simp only [List.length_append, List.length_cons, List.length_nil] at h7
      rw [if_pos ⟨h1.1, by simp only [List.length_cons]; omega⟩]
      rfl
    · rename_i hn1
      split at h
      · rename_i h2
        injection h with h
        subst h
        rw [if_neg (by rw [h2.1]; simp), if_pos]
        · rw [List.length_cons, show op.length + 1 - 1 = (op.length - 1) + 1 by omega]
          rfl
        · refine ⟨h2.1, by simp, ?_⟩
          rw [List.length_cons, show op.length + 1 - 1 = (op.length - 1) + 1 by omega]
          exact h2.2.2
      · rename_i hn2
        split at h
        · rename_i h3
          injection h with h
          subst h
          rcases hpq with e | rfl
          · rw [e] at h3; exact absurd h3.2.1 (by simp)
          · rw [if_neg (by rw [h3.1]; simp), if_neg (by rw [h3.1]; simp), if_pos ⟨h3.1, by simp, h3.2.2⟩]
        · cases h
theorem rightT_beg (name : List UInt8) : rightT ⟨1, name, [], []⟩ = nameP name := by simp [rightT, attrsP]
theorem rightT_end (name : List UInt8) : rightT ⟨2, name, [], []⟩ = nameP name := by simp [rightT]
theorem wrap_one (name : List UInt8) (l : List Tk) : opsTo (elemL name [] l) 1 = if nameP name then some [name] else none := by
  show stepT 0 [] ⟨1, name, [], []⟩ = _
  unfold stepT
  rw [rightT_beg]
  cases nameP name <;> simp
theorem elem_get {name : List UInt8} {al : Ats} {l : List Tk} {k : Nat} (h : k < l.length) : (elemL name al l)[1 + k]? = l[k]? := by
  unfold elemL
  rw [Nat.add_comm, List.getElem?_cons_succ, List.getElem?_append_left h]
theorem wrap_ops {name : List UInt8} {l : List Tk} (hn : nameP name = true) (hr : (opsTo l l.length).isSome = true) (h7 : ∀ k, k ≤ l.length → depK l k ≤ 7) : ∀ k, k ≤ l.length → ∃ op, opsTo l k = some op ∧ opsTo (elemL name [] l) (1 + k) = some (name :: op)
  | 0, _ => ⟨[], rfl, by rw [Nat.add_zero, wrap_one, if_pos hn]⟩
  | k + 1, hk => by
    obtain ⟨op, h1, h2⟩ := wrap_ops hn hr h7 k (by omega)
    obtain ⟨op', hop'⟩ := Option.isSome_iff_exists.1 (opsTo_some (m := k + 1) hk hr)
    have hd := depK_ops _ _ hop'
    have h7' := h7 (k + 1) hk
    refine ⟨op', hop', ?_⟩
    have hs : opsTo l (k + 1) = some op' := hop'
    rw [opsTo, h1, List.getElem?_eq_getElem (by omega)] at hs
    rw [show 1 + (k + 1) = (1 + k) + 1 by omega, opsTo, h2, elem_get (by omega), List.getElem?_eq_getElem (by omega)]
    refine stepT_wrap name hs (by omega) ?_
    cases k with
    | zero => left; injection h1 with h1; exact h1.symm
    | succ k =>
      right
      unfold prevK
      rw [if_neg (by omega), if_neg (by omega), show 1 + (k + 1) - 1 = 1 + k by omega, elem_get (by omega)]
      rfl
theorem wrap_right {name : List UInt8} {l : List Tk} (hr : rightL l = true) (h7 : mostK l l.length < 8) (hl : l.length + 2 ≤ 64) : rightL (elemL name [] l) = nameP name ∧ wholeL (elemL name [] l) = nameP name := by
  have hlen : (elemL name [] l).length = l.length + 2 := by simp [elemL]
  have ho := right_ops hr
  cases hn : nameP name with
  | false =>
    have h1 : opsTo (elemL name [] l) 1 = none := by rw [wrap_one, hn]; rfl
    have hR : rightL (elemL name [] l) = false := by
      unfold rightL
      rw [hlen, show l.length + 2 = 1 + (l.length + 1) by omega, opsTo_none h1]
      simp
    exact ⟨hR, by unfold wholeL; rw [hR]; rfl⟩
  | true =>
    have hw := wrap_ops hn (by rw [ho]; rfl) (fun k hk => by have := mostK_le l l.length k hk; omega)
    have hlast : opsTo (elemL name [] l) (l.length + 2) = some [] := by
      obtain ⟨op, h1, h2⟩ := hw l.length (Nat.le_refl _)
      rw [ho] at h1
      injection h1 with h1
      subst h1
      rw [show l.length + 2 = (1 + l.length) + 1 by omega, opsTo, h2]
      have e : (elemL name [] l)[1 + l.length]? = some ⟨2, name, [], []⟩ := by
        unfold elemL
        rw [Nat.add_comm, List.getElem?_cons_succ, List.getElem?_append_right (Nat.le_refl _)]
        simp
      rw [e]
      show stepT _ [name] ⟨2, name, [], []⟩ = _
      unfold stepT
      rw [rightT_end, hn]
      simp
    have hR : rightL (elemL name [] l) = true := by
      unfold rightL
      rw [hlen, hlast]
      simp
      omega
    refine ⟨hR, ?_⟩
    unfold wholeL
    rw [hR, hlen]
    simp only [Bool.true_and, Bool.and_eq_true, decide_eq_true_eq]
    refine ⟨by simp [elemL], fun j hj => ?_⟩
    obtain ⟨op, _, h2⟩ := hw j (by omega)
    rw [Nat.add_comm, h2]
    simp
theorem named_right (name : List UInt8) : rightL [⟨1, name, [], []⟩, ⟨2, name, [], []⟩] = nameP name := by
  have := (wrap_right (name := name) (l := []) (by rfl) (by decide) (by decide)).1
  exact this
end Go.Proofs.YtjpdadibeocpfaaDoor
/-
  An element with attributes about what is right is right, and whole (plain). No condition.
-/
namespace Go.Proofs.YtjpdadibeocpfaaDoor
set_option linter.unusedVariables false
set_option linter.unusedSimpArgs false
open Go.RowKit Go.MapKept
theorem wrapA_ops {name : List UInt8} {al : Ats} {l : List Tk} (ht : rightT ⟨1, name, al, []⟩ = true) (hr : (opsTo l l.length).isSome = true) (h7 : ∀ k, k ≤ l.length → depK l k ≤ 7) : ∀ k, k ≤ l.length → ∃ op, opsTo l k = some op ∧ opsTo (elemL name al l) (1 + k) = some (name :: op)
  | 0, _ => ⟨[], rfl, by
      rw [Nat.add_zero]
      show stepT 0 [] ⟨1, name, al, []⟩ = _
      unfold stepT
      rw [ht]
      simp⟩
  | k + 1, hk => by
    obtain ⟨op, h1, h2⟩ := wrapA_ops ht hr h7 k (by omega)
    obtain ⟨op', hop'⟩ := Option.isSome_iff_exists.1 (opsTo_some (m := k + 1) hk hr)
    have hd := depK_ops _ _ hop'
    have h7' := h7 (k + 1) hk
    refine ⟨op', hop', ?_⟩
    have hs : opsTo l (k + 1) = some op' := hop'
    rw [opsTo, h1, List.getElem?_eq_getElem (by omega)] at hs
    rw [show 1 + (k + 1) = (1 + k) + 1 by omega, opsTo, h2, elem_get (by omega), List.getElem?_eq_getElem (by omega)]
    refine stepT_wrap name hs (by omega) ?_
    cases k with
    | zero => left; injection h1 with h1; exact h1.symm
    | succ k =>
      right
      unfold prevK
      rw [if_neg (by omega), if_neg (by omega), show 1 + (k + 1) - 1 = 1 + k by omega, elem_get (by omega)]
      rfl
theorem wrapA_whole {name : List UInt8} {al : Ats} {l : List Tk} (ht : rightT ⟨1, name, al, []⟩ = true) (hr : rightL l = true) (h7 : mostK l l.length < 8) (hl : l.length + 2 ≤ 64) : wholeL (elemL name al l) = true := by
  have hlen : (elemL name al l).length = l.length + 2 := by simp [elemL]
  have ho := right_ops hr
  have hn : nameP name = true := by unfold rightT at ht; simp only [show ((1:Int) = 3) = False by decide, show ((1:Int) = 2) = False by decide, if_false, if_true, Bool.and_eq_true] at ht; exact ht.1.2
  have hw := wrapA_ops ht (by rw [ho]; rfl) (fun k hk => by have := mostK_le l l.length k hk; omega)
  have hlast : opsTo (elemL name al l) (l.length + 2) = some [] := by
    obtain ⟨op, h1, h2⟩ := hw l.length (Nat.le_refl _)
    rw [ho] at h1
    injection h1 with h1
    subst h1
    rw [show l.length + 2 = (1 + l.length) + 1 by omega, opsTo, h2]
    have e : (elemL name al l)[1 + l.length]? = some ⟨2, name, [], []⟩ := by
      unfold elemL
      rw [Nat.add_comm, List.getElem?_cons_succ, List.getElem?_append_right (Nat.le_refl _)]
      simp
    rw [e]
    show stepT _ [name] ⟨2, name, [], []⟩ = _
    unfold stepT
    rw [rightT_end, hn]
    simp
  have hR : rightL (elemL name al l) = true := by
    unfold rightL
    rw [hlen, hlast]
    simp
    omega
  unfold wholeL
  rw [hR, hlen]
  simp only [Bool.true_and, Bool.and_eq_true, decide_eq_true_eq]
  refine ⟨by simp [elemL], fun j hj => ?_⟩
  obtain ⟨op, _, h2⟩ := hw j (by omega)
  rw [Nat.add_comm, h2]
  simp
end Go.Proofs.YtjpdadibeocpfaaDoor
