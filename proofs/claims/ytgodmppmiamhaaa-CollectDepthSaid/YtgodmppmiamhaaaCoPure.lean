/-
  Edges: who is above whom, what is right, one edge more or less (plain). No program's text, no condition.
-/
import Derived.Test.YtgodmppmiamhaaaCoChain
import Derived.Test.YtgodmppmiamhaaaWrTok
namespace Go.Proofs.Ytgodmppmiamhaaa
set_option linter.unusedVariables false
set_option linter.unusedSimpArgs false
open Go.RowKit Go.MapKept
abbrev Txt := List UInt8
/-- the first edge's of a child -/
def parE : Ats → Txt → Option Txt
  | [], _ => none
  | e :: r, c => if e.1 = c then some e.2 else parE r c
def aboveE (E : Ats) (c : Txt) : List Txt := upF (parE E) E.length c
def isUpE (E : Ats) (n b : Txt) : Bool := (aboveE E b).contains n
def sortE (E : Ats) : Prop := E.Pairwise fun a b => a.1 < b.1
def fullE (E : Ats) : Bool := E.all fun e => !(e.1 == []) && !(e.2 == [])
instance (E : Ats) : Decidable (sortE E) := by unfold sortE; infer_instance
/-- are edges right? -/
def rightE (E : Ats) : Bool := decide (E.length ≤ 64) && fullE E && decide (sortE E) && E.all fun e => !isUpE E e.1 e.1
/-- one edge put in its place -/
def insE (c p : Txt) : Ats → Ats
  | [] => [(c, p)]
  | e :: r => if c < e.1 then (c, p) :: e :: r else if c = e.1 then (c, p) :: r else e :: insE c p r
def remE (E : Ats) (c : Txt) : Ats := E.filter fun e => !(e.1 == c)
/-- what Add answers -/
def addE (E : Ats) (c p : Txt) : Ats × Int :=
  if c = [] ∨ p = [] ∨ rightE E = false then ([], 3)
  else if c = p ∨ isUpE E c p = true then ([], 9)
  else if parE E c = none ∧ 64 ≤ E.length then ([], 4)
  else (insE c p E, 0)
def delE (E : Ats) (c : Txt) : Ats × Int :=
  if rightE E = false then ([], 3) else if parE E c = none then ([], 10) else (remE E c, 0)
def kidsE (E : Ats) (p : Txt) : List Txt := if rightE E then (E.filter fun e => e.2 == p).map (·.1) else []
def belowE (E : Ats) (p : Txt) : List Txt := if rightE E then (E.filter fun e => isUpE E p e.1).map (·.1) else []
def upsE (E : Ats) (c : Txt) : List Txt := if rightE E then aboveE E c else []
theorem par_ins (c p : Txt) : ∀ (E : Ats) (x : Txt), parE (insE c p E) x = if x = c then some p else parE E x
  | [], x => by
    unfold insE parE
    by_cases h : c = x
    · rw [if_pos h, if_pos h.symm]
    · rw [if_neg h, if_neg (fun e => h e.symm)]; rfl
  | e :: r, x => by
    unfold insE
    split
    · show (if c = x then some p else parE (e :: r) x) = _
      by_cases h : c = x
      · rw [if_pos h, if_pos h.symm]
      · rw [if_neg h, if_neg (fun e => h e.symm)]
    · split
      · rename_i h1 h2
        show (if c = x then some p else parE r x) = _
        by_cases h : c = x
        · rw [if_pos h, if_pos h.symm]
        · rw [if_neg h, if_neg (fun e => h e.symm)]
          show _ = if e.1 = x then some e.2 else parE r x
          rw [if_neg (fun e' => h (h2.trans e'))]
      · rename_i h1 h2
        show (if e.1 = x then some e.2 else parE (insE c p r) x) = if x = c then some p else if e.1 = x then some e.2 else parE r x
        rw [par_ins c p r x]
        by_cases h : e.1 = x
        · rw [if_pos h, if_neg (fun e' => h2 (by rw [← e', h])), if_pos h]
        · rw [if_neg h, if_neg h]
theorem par_mem : ∀ {E : Ats} {x p : Txt}, parE E x = some p → x ∈ E.map (·.1)
  | e :: r, x, p, h => by
    unfold parE at h
    split at h
    · rename_i h1; simp [h1]
    · have := par_mem h; simp only [List.map_cons, List.mem_cons]; exact .inr this
theorem par_pair : ∀ {E : Ats} {x p : Txt}, parE E x = some p → (x, p) ∈ E
  | e :: r, x, p, h => by
    unfold parE at h
    split at h
    · rename_i h1; injection h with h; subst h1 h; simp
    · exact List.mem_cons_of_mem _ (par_pair h)
theorem ins_mem {c p : Txt} : ∀ {E : Ats} {e : Txt × Txt}, e ∈ insE c p E → e = (c, p) ∨ e ∈ E
  | [], e, h => by simp [insE] at h; exact .inl h
  | a :: r, e, h => by
    unfold insE at h
    split at h
    · rcases List.mem_cons.1 h with h | h
      · exact .inl h
      · exact .inr h
    · split at h
      · rcases List.mem_cons.1 h with h | h
        · exact .inl h
        · exact .inr (List.mem_cons_of_mem _ h)
      · rcases List.mem_cons.1 h with h | h
        · exact .inr (by simp [h])
        · rcases ins_mem h with h | h
          · exact .inl h
          · exact .inr (List.mem_cons_of_mem _ h)
end Go.Proofs.Ytgodmppmiamhaaa
