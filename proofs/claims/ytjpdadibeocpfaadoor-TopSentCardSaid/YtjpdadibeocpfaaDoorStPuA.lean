/-
  Stanzas in plain words: names, types, tokens, what is right, what tokens say. No condition.
-/
import Derived.Test.YtjpdadibeocpfaaDoorWrWa
import Derived.Test.YtjpdadibeocpfaaDoorWrSa
import Derived.Test.YtjpdadibeocpfaaDoorJidPure
import Derived.Test.YtjpdadibeocpfaaDoorWrOps
namespace Go.Proofs.YtjpdadibeocpfaaDoor
set_option linter.unusedVariables false
set_option linter.unusedSimpArgs false
open Go.RowKit Go.MapKept
/-- a stanza -/
structure Sz where
  k : Nat
  ty : List UInt8
  fr : List UInt8
  tt : List UInt8
  id : List UInt8
  pl : List Tk
def szV (z : Sz) (sv : Value) : Value := .agg #[.int .u8 z.k, .string ⟨z.ty.toArray⟩, .string ⟨z.fr.toArray⟩, .string ⟨z.tt.toArray⟩, .string ⟨z.id.toArray⟩, sv]
def iqL : List UInt8 := [105, 113]
def msgL : List UInt8 := [109, 101, 115, 115, 97, 103, 101]
def preL : List UInt8 := [112, 114, 101, 115, 101, 110, 99, 101]
def errL : List UInt8 := [101, 114, 114, 111, 114]
def resL : List UInt8 := [114, 101, 115, 117, 108, 116]
def tyL : List UInt8 := [116, 121, 112, 101]
def frL : List UInt8 := [102, 114, 111, 109]
def toL : List UInt8 := [116, 111]
def idL : List UInt8 := [105, 100]
/-- the name of a kind's element -/
def nameK (k : Nat) : List UInt8 := if k = 0 then [] else if k = 1 then iqL else if k = 2 then msgL else preL
def typedB (k : Nat) (t : List UInt8) : Bool :=
  if k = 1 then t == [103, 101, 116] || t == [115, 101, 116] || t == resL || t == errL
  else if k = 3 then t == [117, 110, 97, 118, 97, 105, 108, 97, 98, 108, 101] || t == errL || t == []
  else if k = 2 then t == [99, 104, 97, 116] || t == [104, 101, 97, 100, 108, 105, 110, 101] || t == errL || t == []
  else false
def attrsZ (z : Sz) : Ats := [(tyL, z.ty), (frL, z.fr), (toL, z.tt), (idL, z.id)].filter fun p => !(p.2 == [])
def tokensZ (z : Sz) : List Tk := elemL (nameK z.k) (attrsZ z) z.pl
def addrOk (s : List UInt8) : Bool := s == [] || (parseL s).isSome
def rightZ (z : Sz) : Bool := addrOk z.fr && addrOk z.tt && typedB z.k z.ty && !(z.k == 1 && z.id == []) && decide (z.id.length ≤ 512) && charsP z.id && decide (z.pl.length ≤ 64) && wholeL (tokensZ z)
def kindN (n : List UInt8) : Nat := if n = preL then 3 else if n = msgL then 2 else if n = iqL then 1 else 0
def setZ (z : Sz) (p : List UInt8 × List UInt8) : Option Sz :=
  if p.1 = tyL then some { z with ty := p.2 } else if p.1 = frL then some { z with fr := p.2 } else if p.1 = toL then some { z with tt := p.2 } else if p.1 = idL then some { z with id := p.2 } else none
def decA (z : Sz) : Ats → Option Sz
  | [] => some z
  | p :: r => match setZ z p with
    | some z' => decA z' r
    | none => none
def zero0 : Sz := ⟨0, [], [], [], [], []⟩
/-- what tokens say -/
def decZ (l : List Tk) : Option Sz :=
  if wholeL l = false then none else
  match decA ⟨kindN (l.head?.map Tk.n |>.getD []), [], [], [], [], []⟩ ((l.head?.map Tk.as).getD []) with
  | some z => if rightZ { z with pl := (l.drop 1).take (l.length - 2) } then some { z with pl := (l.drop 1).take (l.length - 2) } else none
  | none => none
def sameZ (a b : Sz) : Bool := decide (a.k = b.k) && decide (a.ty = b.ty) && decide (a.fr = b.fr) && decide (a.tt = b.tt) && decide (a.id = b.id) && sameL a.pl b.pl
theorem typed_kind {k : Nat} {t : List UInt8} (h : typedB k t = true) : k = 1 ∨ k = 2 ∨ k = 3 := by
  unfold typedB at h
  split at h
  · exact .inl (by assumption)
  · split at h
    · exact .inr (.inr (by assumption))
    · split at h
      · exact .inr (.inl (by assumption))
      · cases h
theorem kind_back {k : Nat} (h : k = 1 ∨ k = 2 ∨ k = 3) : kindN (nameK k) = k := by
  rcases h with rfl | rfl | rfl <;> decide
theorem decA_attrs (z : Sz) (p : List Tk) : decA ⟨z.k, [], [], [], [], p⟩ (attrsZ z) = some { z with pl := p } := by
  obtain ⟨k, ty, fr, tt, id, pl⟩ := z
  have e1 : (frL = tyL) = False := by decide
  have e2 : (toL = tyL) = False := by decide
  have e3 : (toL = frL) = False := by decide
  have e4 : (idL = tyL) = False := by decide
  have e5 : (idL = frL) = False := by decide
  have e6 : (idL = toL) = False := by decide
  unfold attrsZ
  cases ty <;> cases fr <;> cases tt <;> cases id <;> simp [List.filter, decA, setZ, e1, e2, e3, e4, e5, e6]
theorem elem_mid (n : List UInt8) (al : Ats) (l : List Tk) : ((elemL n al l).drop 1).take ((elemL n al l).length - 2) = l := by
  simp [elemL]
theorem dec_tokens {z : Sz} (h : rightZ z = true) : decZ (tokensZ z) = some z := by
  have hw : wholeL (tokensZ z) = true := by unfold rightZ at h; simp only [Bool.and_eq_true] at h; exact h.2
  have hk : typedB z.k z.ty = true := by unfold rightZ at h; simp only [Bool.and_eq_true] at h; exact h.1.1.1.1.1.2
  unfold decZ
  rw [if_neg (by rw [hw]; simp)]
  have e1 : ((tokensZ z).head?.map Tk.n).getD [] = nameK z.k := rfl
  have e2 : ((tokensZ z).head?.map Tk.as).getD [] = attrsZ z := rfl
  have e3 : ((tokensZ z).drop 1).take ((tokensZ z).length - 2) = z.pl := elem_mid _ _ _
  rw [e1, e2, e3, kind_back (typed_kind hk), decA_attrs z []]
  show (if rightZ z then some z else none) = some z
  rw [if_pos h]
theorem dec_right {l : List Tk} {z : Sz} (h : decZ l = some z) : rightZ z = true := by
  unfold decZ at h
  split at h
  · cases h
  · split at h
    · split at h
      · injection h with h; subst h; assumption
      · cases h
    · cases h
theorem attrsZ_ok (z : Sz) : attrsP [] (attrsZ z) = ((z.ty == [] || fitsP z.ty) && (z.fr == [] || fitsP z.fr) && (z.tt == [] || fitsP z.tt) && (z.id == [] || fitsP z.id)) := by
  obtain ⟨k, ty, fr, tt, id, pl⟩ := z
  have n1 : nameP tyL = true := by decide
  have n2 : nameP frL = true := by decide
  have n3 : nameP toL = true := by decide
  have n4 : nameP idL = true := by decide
  have e1 : (frL = tyL) = False := by decide
  have e2 : (toL = tyL) = False := by decide
  have e3 : (toL = frL) = False := by decide
  have e4 : (idL = tyL) = False := by decide
  have e5 : (idL = frL) = False := by decide
  have e6 : (idL = toL) = False := by decide
  unfold attrsZ
  cases ty <;> cases fr <;> cases tt <;> cases id <;> simp [List.filter, attrsP, n1, n2, n3, n4, e1, e2, e3, e4, e5, e6, Bool.and_assoc]
theorem attrsZ_len (z : Sz) : (attrsZ z).length ≤ 4 := List.length_filter_le _ _
theorem whole_first {n : List UInt8} {al : Ats} {l : List Tk} (h : wholeL (elemL n al l) = true) : rightT ⟨1, n, al, []⟩ = true := by
  have h1 := (whole_right h).1
  have h2 := right_ops h1
  exact right_each (l := elemL n al l) (by rw [h2]; rfl) 0 (by simp [elemL])
theorem rightT_begin (n : List UInt8) (al : Ats) : rightT ⟨1, n, al, []⟩ = (attrsP [] al && nameP n) := by simp [rightT]
theorem tokens_len (z : Sz) (h : z.pl = []) : (tokensZ z).length = 2 := by simp [tokensZ, elemL, h]
theorem sameZ_refl (z : Sz) : sameZ z z = true := by
  unfold sameZ
  have : sameL z.pl z.pl = true := same_of rfl fun i h _ => by simp [Tk.same]
  simp [this]
theorem sameZ_comm (a b : Sz) : sameZ a b = sameZ b a := by
  have e : ∀ x y : Sz, sameZ x y = true → sameZ y x = true := by
    intro x y h
    unfold sameZ at h ⊢
    simp only [Bool.and_eq_true, decide_eq_true_eq] at h ⊢
    obtain ⟨⟨⟨⟨⟨h1, h2⟩, h3⟩, h4⟩, h5⟩, h6⟩ := h
    refine ⟨⟨⟨⟨⟨h1.symm, h2.symm⟩, h3.symm⟩, h4.symm⟩, h5.symm⟩, ?_⟩
    refine same_of (same_len h6).symm fun i i1 i2 => ?_
    have := same_each h6 i i2 i1
    unfold Tk.same at this ⊢
    simp only [Bool.and_eq_true, decide_eq_true_eq] at this ⊢
    obtain ⟨⟨⟨g1, g2⟩, g3⟩, g4⟩ := this
    exact ⟨⟨⟨g1.symm, g2.symm⟩, g3.symm⟩, g4.symm⟩
  cases h : sameZ a b with
  | true => exact (e _ _ h).symm
  | false =>
    cases h' : sameZ b a with
    | false => rfl
    | true => rw [e _ _ h'] at h; cases h
end Go.Proofs.YtjpdadibeocpfaaDoor
