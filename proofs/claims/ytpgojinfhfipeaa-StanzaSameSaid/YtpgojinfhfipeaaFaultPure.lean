/-
  Conditions: their names and types, as lists of bytes; the condition of a name. Plain lists, no program. No condition.
-/
namespace Go.Proofs.Ytpgojinfhfipeaa
set_option linter.unusedVariables false
set_option linter.unusedSimpArgs false
def nameL (c : Int) : List UInt8 :=
  if c = 1 then [98, 97, 100, 45, 114, 101, 113, 117, 101, 115, 116] else
  if c = 2 then [99, 111, 110, 102, 108, 105, 99, 116] else
  if c = 3 then [102, 111, 114, 98, 105, 100, 100, 101, 110] else
  if c = 4 then [105, 116, 101, 109, 45, 110, 111, 116, 45, 102, 111, 117, 110, 100] else
  if c = 5 then [106, 105, 100, 45, 109, 97, 108, 102, 111, 114, 109, 101, 100] else
  if c = 6 then [110, 111, 116, 45, 97, 108, 108, 111, 119, 101, 100] else
  if c = 7 then [110, 111, 116, 45, 97, 117, 116, 104, 111, 114, 105, 122, 101, 100] else
  if c = 8 then [114, 101, 115, 111, 117, 114, 99, 101, 45, 99, 111, 110, 115, 116, 114, 97, 105, 110, 116] else
  if c = 9 then [115, 101, 114, 118, 105, 99, 101, 45, 117, 110, 97, 118, 97, 105, 108, 97, 98, 108, 101] else
  if c = 10 then [117, 110, 101, 120, 112, 101, 99, 116, 101, 100, 45, 114, 101, 113, 117, 101, 115, 116] else []
def typeL (c : Int) : List UInt8 :=
  if c = 1 then [109, 111, 100, 105, 102, 121] else
  if c = 2 then [99, 97, 110, 99, 101, 108] else
  if c = 3 then [97, 117, 116, 104] else
  if c = 4 then [99, 97, 110, 99, 101, 108] else
  if c = 5 then [109, 111, 100, 105, 102, 121] else
  if c = 6 then [99, 97, 110, 99, 101, 108] else
  if c = 7 then [97, 117, 116, 104] else
  if c = 8 then [119, 97, 105, 116] else
  if c = 9 then [99, 97, 110, 99, 101, 108] else
  if c = 10 then [119, 97, 105, 116] else []
def knownB (c : Int) : Bool := decide (1 ≤ c ∧ c ≤ 10)
/-- the condition of a name; 0: none -/
def condL (s : List UInt8) : Int :=
  if s = [98, 97, 100, 45, 114, 101, 113, 117, 101, 115, 116] then 1 else
  if s = [99, 111, 110, 102, 108, 105, 99, 116] then 2 else
  if s = [102, 111, 114, 98, 105, 100, 100, 101, 110] then 3 else
  if s = [105, 116, 101, 109, 45, 110, 111, 116, 45, 102, 111, 117, 110, 100] then 4 else
  if s = [106, 105, 100, 45, 109, 97, 108, 102, 111, 114, 109, 101, 100] then 5 else
  if s = [110, 111, 116, 45, 97, 108, 108, 111, 119, 101, 100] then 6 else
  if s = [110, 111, 116, 45, 97, 117, 116, 104, 111, 114, 105, 122, 101, 100] then 7 else
  if s = [114, 101, 115, 111, 117, 114, 99, 101, 45, 99, 111, 110, 115, 116, 114, 97, 105, 110, 116] then 8 else
  if s = [115, 101, 114, 118, 105, 99, 101, 45, 117, 110, 97, 118, 97, 105, 108, 97, 98, 108, 101] then 9 else
  if s = [117, 110, 101, 120, 112, 101, 99, 116, 101, 100, 45, 114, 101, 113, 117, 101, 115, 116] then 10 else 0
theorem known_cases {c : Int} (h : knownB c = true) : c = 1 ∨ c = 2 ∨ c = 3 ∨ c = 4 ∨ c = 5 ∨ c = 6 ∨ c = 7 ∨ c = 8 ∨ c = 9 ∨ c = 10 := by
  simp only [knownB, decide_eq_true_eq] at h
  omega
theorem nameL_un {c : Int} (h : knownB c = false) : nameL c = [] := by
  simp only [knownB, decide_eq_false_iff_not] at h
  unfold nameL
  iterate 10 rw [if_neg (by omega)]
theorem typeL_un {c : Int} (h : knownB c = false) : typeL c = [] := by
  simp only [knownB, decide_eq_false_iff_not] at h
  unfold typeL
  iterate 10 rw [if_neg (by omega)]
end Go.Proofs.Ytpgojinfhfipeaa
