/-
  Keys with values (plain): a map's datum; one pair more or less; the bytes. No program's text, no condition.
-/
import Derived.Test.YtfeiihmhdcnabaaCoPure3
import Derived.Maps.OwnSet
import Derived.Maps.StringElems
import Derived.Sort.KeysCollected
namespace Go.Proofs.Ytfeiihmhdcnabaa
set_option linter.unusedVariables false
set_option linter.unusedSimpArgs false
open Go.RowKit Go.MapKept
def ent (e : Txt × Txt) : Lit × DataW Unit := (.string e.1, .lit (.string e.2))
/-- what a map with these pairs reads as -/
def kvD (E : Ats) : DataW Unit := .map (E.map ent)
theorem before_lt : ∀ a b : Txt, bytesBefore a b = decide (a < b)
  | [], [] => by simp [bytesBefore, List.not_lt_nil]
  | [], b :: y => by simp [bytesBefore, List.nil_lt_cons]
  | a :: x, [] => by simp [bytesBefore, List.not_lt_nil]
  | a :: x, b :: y => by
    rw [bytesBefore, before_lt x y, Bool.eq_iff_iff]
    simp [tl_cons]
theorem kv_insert {c v : Txt} : ∀ {E : Ats}, (∀ e ∈ E, e.1 ≠ c) → DataW.insert (ent (c, v)) (E.map ent) = (insE c v E).map ent
  | [], _ => rfl
  | e :: r, h => by
    have h1 : ¬ c = e.1 := fun x => h e (by simp) x.symm
    have ih := kv_insert (v := v) (E := r) (fun x hx => h x (by simp [hx]))
    unfold insE
    rw [List.map_cons, DataW.insert]
    show (if bytesBefore c e.1 = true then _ else _) = _
    rw [before_lt]
    by_cases h2 : c < e.1
    · simp [h2, ent]
    · rw [if_neg (by simpa using h2), if_neg h2, if_neg h1, ih]
      rfl
theorem kv_filter (E : Ats) (c : Txt) : ((E.map ent).filter fun p => !p.1.sameKey (.string c)) = (remE E c).map ent := by
  unfold remE
  rw [List.filter_map]
  rfl
theorem rem_no (E : Ats) (c : Txt) : ∀ e ∈ remE E c, e.1 ≠ c := by
  intro e he
  have := (List.mem_filter.1 he).2
  simpa using this
theorem rem_gt {c : Txt} : ∀ {E : Ats}, (∀ e ∈ E, c < e.1) → remE E c = E := by
  intro E h
  refine List.filter_eq_self.2 fun e he => ?_
  have := h e he
  simp only [Bool.not_eq_true', beq_eq_false_iff_ne]
  intro x
  rw [x] at this
  exact tl_irrefl _ this
theorem ins_first {c v : Txt} : ∀ {E : Ats}, (∀ e ∈ E, c < e.1) → insE c v E = (c, v) :: E
  | [], _ => rfl
  | e :: r, h => by
    unfold insE
    rw [if_pos (h e (by simp))]
theorem ins_rem {c v : Txt} : ∀ {E : Ats}, sortE E → insE c v (remE E c) = insE c v E
  | [], _ => rfl
  | e :: r, hs => by
    obtain ⟨h1, h2⟩ := List.pairwise_cons.1 hs
    by_cases he : e.1 = c
    · have hg : ∀ x ∈ r, c < x.1 := fun x hx => by have := h1 x hx; rw [he] at this; exact this
      have e1 : remE (e :: r) c = r := by
        have : remE (e :: r) c = remE r c := by unfold remE; rw [List.filter_cons_of_neg (by simp [he])]
        rw [this, rem_gt hg]
      rw [e1, ins_first hg]
      unfold insE
      rw [if_neg (by rw [he]; exact tl_irrefl _), if_pos he.symm]
    · have e1 : remE (e :: r) c = e :: remE r c := by unfold remE; rw [List.filter_cons_of_pos (by simp [he])]
      rw [e1]
      unfold insE
      by_cases hlt : c < e.1
      · have hg : ∀ x ∈ r, c < x.1 := fun x hx => tl_trans hlt (h1 x hx)
        rw [if_pos hlt, if_pos hlt, rem_gt hg]
      · rw [if_neg hlt, if_neg hlt, if_neg (fun x => he x.symm), if_neg (fun x => he x.symm), ins_rem h2]
theorem kv_put {E : Ats} (hs : sortE E) (c v : Txt) : (kvD E).put (.string c) (.lit (.string v)) = kvD (insE c v E) := by
  unfold kvD
  show DataW.map (DataW.insert (ent (c, v)) ((E.map ent).filter fun p => !p.1.sameKey (.string c))) = _
  rw [kv_filter, kv_insert (rem_no E c), ins_rem hs]
theorem kv_del (E : Ats) (c : Txt) : (kvD E).del (.string c) = kvD (remE E c) := by
  unfold kvD
  show DataW.map ((E.map ent).filter fun p => !p.1.sameKey (.string c)) = _
  rw [kv_filter]
theorem kv_has (c : Txt) : ∀ E : Ats, Maps.has (kvD E) (.string c) = (parE E c).isSome
  | [] => rfl
  | e :: r => by
    have ih := kv_has c r
    unfold kvD at ih ⊢
    rw [Maps.has_eq] at ih ⊢
    unfold parE
    rw [List.map_cons, List.any_cons, ih]
    show ((e.1 == c) || _) = _
    by_cases h : e.1 = c
    · simp [h]
    · simp [h]
theorem kv_at (c : Txt) : ∀ E : Ats, (kvD E).atKey (.string c) (.lit (.string [])) = .lit (.string ((parE E c).getD []))
  | [] => rfl
  | e :: r => by
    have ih := kv_at c r
    unfold kvD at ih ⊢
    unfold DataW.atKey at ih ⊢
    unfold parE
    simp only [List.map_cons, List.find?_cons]
    have he : (ent e).1.sameKey (.string c) = (e.1 == c) := rfl
    rw [he]
    by_cases h : e.1 = c
    · simp [h, ent]
    · have hb : (e.1 == c) = false := by simpa using h
      simp only [hb, h, if_false]
      exact ih
theorem kv_size (E : Ats) : Maps.size (kvD E) = E.length := by unfold kvD; rw [Maps.size_eq, List.length_map]
theorem kv_keys (E : Ats) : strKeys (kvD E) = E.map (·.1) := by
  unfold kvD strKeys
  simp only [List.map_map]
  rfl
theorem rem_sort {E : Ats} (h : sortE E) (c : Txt) : sortE (remE E c) := List.Pairwise.filter _ h
theorem keys_sorted {E : Ats} (hs : sortE E) {ss : List Txt} (hp : ss.Perm (E.map (·.1))) : ss.mergeSort (fun x y => decide (x ≤ y)) = E.map (·.1) := by
  have hle : ∀ {a b : Txt}, a < b → a ≤ b := fun {a b} h => by
    show ¬ b < a
    intro h2
    exact tl_irrefl _ (tl_trans h h2)
  show ss.mergeSort leB = _
  rw [mergeSort_of_perm hp]
  refine List.mergeSort_of_pairwise ?_
  rw [List.pairwise_map]
  exact hs.imp fun h => decide_eq_true (hle h)
/-- what Put answers -/
def putE (E : Ats) (c v : Txt) : Ats × Int := if c = [] ∨ 64 < c.length ∨ 4096 < v.length then (E, 2) else if parE E c = none ∧ 128 ≤ E.length then (E, 4) else (insE c v E, 0)
def dropE (E : Ats) (c : Txt) : Ats × Int := if parE E c = none then (E, 10) else (remE E c, 0)
def scanE (E : Ats) (p : Txt) : Ats := E.filter fun e => p.isPrefixOf e.1
def pairB (e : Txt × Txt) : Txt := UInt8.ofNat e.1.length :: (e.1 ++ (UInt8.ofNat (e.2.length / 256) :: UInt8.ofNat e.2.length :: e.2))
def bytesE (E : Ats) : Txt := E.flatMap pairB
def sizeE (E : Ats) : Nat := (bytesE E).length
def okP (e : Txt × Txt) : Prop := e.1 ≠ [] ∧ e.1.length ≤ 64 ∧ e.2.length ≤ 4096
def okE (E : Ats) : Prop := sortE E ∧ E.length ≤ 128 ∧ ∀ e ∈ E, okP e
theorem ok_nil : okE [] := ⟨List.Pairwise.nil, by simp, fun e h => by cases h⟩
theorem ok_put {E : Ats} (h : okE E) (c v : Txt) : okE (putE E c v).1 := by
  obtain ⟨h1, h2, h3⟩ := h
  unfold putE
  split
  · exact ⟨h1, h2, h3⟩
  · rename_i hg
    split
    · exact ⟨h1, h2, h3⟩
    · rename_i hf
      refine ⟨ins_sort c v h1, ?_, fun e he => ?_⟩
      · show (insE c v E).length ≤ 128
        rw [ins_len c v h1]
        split
        · rename_i hn
          have : ¬ 128 ≤ E.length := fun h => hf ⟨hn, h⟩
          omega
        · exact h2
      · rcases ins_mem he with rfl | he
        · exact ⟨fun h => hg (.inl h), by have := fun h => hg (.inr (.inl h)); show c.length ≤ 64; omega, by have := fun h => hg (.inr (.inr h)); show v.length ≤ 4096; omega⟩
        · exact h3 e he
theorem ok_rem {E : Ats} (h : okE E) (c : Txt) : okE (remE E c) :=
  ⟨rem_sort h.1 c, Nat.le_trans (List.length_filter_le _ _) h.2.1, fun e he => h.2.2 e (List.mem_filter.1 he).1⟩
theorem ok_drop {E : Ats} (h : okE E) (c : Txt) : okE (dropE E c).1 := by
  unfold dropE
  split
  · exact h
  · exact ok_rem h c
theorem bytes_cons (e : Txt × Txt) (r : Ats) : bytesE (e :: r) = pairB e ++ bytesE r := rfl
theorem bytes_app (a b : Ats) : bytesE (a ++ b) = bytesE a ++ bytesE b := by simp [bytesE]
theorem pairB_len (e : Txt × Txt) : (pairB e).length = 3 + e.1.length + e.2.length := by simp [pairB]; omega
theorem bytes_le {E : Ats} (h : ∀ e ∈ E, okP e) : (bytesE E).length ≤ 4163 * E.length := by
  induction E with
  | nil => simp [bytesE]
  | cons e r ih =>
    have h1 := h e (by simp)
    have := ih (fun x hx => h x (by simp [hx]))
    rw [bytes_cons, List.length_append, pairB_len, List.length_cons]
    obtain ⟨-, h2, h3⟩ := h1
    omega
end Go.Proofs.Ytfeiihmhdcnabaa
