/-
  Names of nodes and items in plain words, and what decoding a character says of them. No program, no condition.
-/
import Derived.Test.YtoijpjmkjhoiaaaTxChars
namespace Go.Proofs.Ytoijpjmkjhoiaaa
set_option linter.unusedVariables false
set_option linter.unusedSimpArgs false
open Go.RowKit
def okCh (c : Nat) : Bool := decide (97 ≤ c ∧ c ≤ 122) || decide (48 ≤ c ∧ c ≤ 57) || decide (c = 45) || decide (c = 46)
def okN (c : UInt8) : Bool := okCh c.toNat
/-- may a node, or an item, be called so? -/
def nodeP (s : List UInt8) : Bool := !(s == []) && decide (s.length ≤ 24) && s.all okN
theorem dec_ok {s : List UInt8} {pos : Nat} (h : pos < s.length) : okCh (Utf8.decode ⟨s.toArray⟩ pos).1 = okN (s[pos]'h) ∧ (okN (s[pos]'h) = true → (Utf8.decode ⟨s.toArray⟩ pos).2 = 1) := by
  have hz : pos < (ByteArray.mk s.toArray).size := h
  have hg := mk_get s pos hz
  by_cases ha : ((ByteArray.mk s.toArray)[pos]'hz).toNat < 128
  · rw [decode_ascii _ pos hz ha, hg]
    exact ⟨rfl, fun _ => rfl⟩
  · have hh := decode_high _ pos hz (by omega)
    rw [hg] at ha
    have e1 : okN (s[pos]'h) = false := by simp [okN, okCh]; omega
    have e2 : okCh (Utf8.decode ⟨s.toArray⟩ pos).1 = false := by simp [okCh]; omega
    rw [e1, e2]
    exact ⟨rfl, fun h => by cases h⟩
theorem all_take {s : List UInt8} {k : Nat} (h : k < s.length) : (s.take (k + 1)).all okN = ((s.take k).all okN && okN (s[k]'h)) := by
  rw [List.take_add_one, List.getElem?_eq_getElem h, List.all_append]
  simp only [Option.toList_some, List.all_cons, List.all_nil, Bool.and_true]
theorem all_not {s : List UInt8} {k : Nat} (h : k < s.length) (hc : okN (s[k]'h) = false) : s.all okN = false := by
  rw [Bool.eq_false_iff]
  intro ha
  rw [List.all_eq_true.1 ha _ (List.getElem_mem h)] at hc
  cases hc
end Go.Proofs.Ytoijpjmkjhoiaaa
