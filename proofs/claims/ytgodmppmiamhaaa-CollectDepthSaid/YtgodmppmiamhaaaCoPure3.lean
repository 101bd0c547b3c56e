/-
  Edges: the laws (plain): one edge more is right; taken out again all is as it was; who is above has below; below is in a kid, or below one. No condition.
-/
import Derived.Test.YtgodmppmiamhaaaCoPure2
namespace Go.Proofs.Ytgodmppmiamhaaa
set_option linter.unusedVariables false
set_option linter.unusedSimpArgs false
open Go.RowKit Go.MapKept
theorem right_parts {E : Ats} (h : rightE E = true) : E.length ≤ 64 ∧ fullE E = true ∧ sortE E ∧ ∀ e ∈ E, isUpE E e.1 e.1 = false := by
  unfold rightE at h
  simp only [Bool.and_eq_true, decide_eq_true_eq, List.all_eq_true, Bool.not_eq_true'] at h
  exact ⟨h.1.1.1, h.1.1.2, h.1.2, h.2⟩
theorem up_iff (E : Ats) (n b : Txt) : isUpE E n b = true ↔ ∃ m, 1 ≤ m ∧ m ≤ E.length ∧ itF (parE E) m b = some n := by
  unfold isUpE aboveE
  rw [List.contains_iff_mem, mem_upF]
theorem srcE (E : Ats) : ∀ x p, parE E x = some p → x ∈ E.map (·.1) := fun _ _ h => par_mem h
theorem acyc {E : Ats} (h : rightE E = true) : ∀ k x, 1 ≤ k → itF (parE E) k x ≠ some x := by
  refine no_circle (srcE E) (fun k x h1 h2 hx => ?_)
  rw [List.length_map] at h2
  obtain ⟨-, -, -, hu⟩ := right_parts h
  have hup : isUpE E x x = true := (up_iff E x x).2 ⟨k, h1, h2, hx⟩
  obtain ⟨j, rfl⟩ : ∃ j, k = j + 1 := ⟨k - 1, by omega⟩
  rw [itF] at hx
  cases hf : parE E x with
  | none => rw [hf] at hx; cases hx
  | some p =>
    have := hu _ (par_pair hf)
    rw [hup] at this
    cases this
theorem up_all {E : Ats} (h : rightE E = true) (n b : Txt) : isUpE E n b = true ↔ ∃ m, 1 ≤ m ∧ itF (parE E) m b = some n := by
  rw [up_iff]
  constructor
  · rintro ⟨m, h1, -, h3⟩; exact ⟨m, h1, h3⟩
  · rintro ⟨m, h1, h3⟩
    refine ⟨m, h1, ?_, h3⟩
    have := way_len (srcE E) (fun k x h1 _ => acyc h k x h1) h3
    rwa [List.length_map] at this
theorem right_ins {E : Ats} {c p : Txt} (h : rightE E = true) (hc : c ≠ []) (hp : p ≠ []) (hcp : c ≠ p) (hu : isUpE E c p = false) (hf : ¬ (parE E c = none ∧ 64 ≤ E.length)) : rightE (insE c p E) = true := by
  obtain ⟨h1, h2, h3, h4⟩ := right_parts h
  have hlen := ins_len c p h3
  have hno : ∀ k x, 1 ≤ k → itF (parE (insE c p E)) k x ≠ some x := by
    refine one_more (f := parE E) (c := c) (p := p) (by rw [par_ins, if_pos rfl]) (fun x hx => by rw [par_ins, if_neg hx]) (fun e => hcp e.symm) (acyc h) (fun k hk e => ?_)
    have := (up_all h c p).2 ⟨k, hk, e⟩
    rw [hu] at this
    cases this
  unfold rightE
  simp only [Bool.and_eq_true, decide_eq_true_eq, List.all_eq_true, Bool.not_eq_true']
  refine ⟨⟨⟨?_, ?_⟩, ins_sort c p h3⟩, fun e he => ?_⟩
  · rw [hlen]
    split
    · rename_i hn
      have : ¬ 64 ≤ E.length := fun h' => hf ⟨hn, h'⟩
      omega
    · exact h1
  · unfold fullE at h2 ⊢
    rw [List.all_eq_true] at h2 ⊢
    intro e he
    rcases ins_mem he with rfl | he
    · simp [hc, hp]
    · exact h2 e he
  · cases hx : isUpE (insE c p E) e.1 e.1 with
    | false => rfl
    | true =>
      obtain ⟨m, g1, -, g3⟩ := (up_iff _ _ _).1 hx
      exact absurd g3 (hno m e.1 g1)
theorem par_of {E : Ats} (hs : sortE E) : ∀ {x p : Txt}, (x, p) ∈ E → parE E x = some p := by
  induction E with
  | nil => intro x p h; cases h
  | cons e r ih =>
    intro x p h
    obtain ⟨h1, h2⟩ := List.pairwise_cons.1 hs
    unfold parE
    rcases List.mem_cons.1 h with rfl | h
    · rw [if_pos rfl]
    · rw [if_neg (fun e' => tl_irrefl x (by have := h1 _ h; rw [e'] at this; exact this))]
      exact ih h2 h
theorem rem_none {E : Ats} {c : Txt} (h : parE E c = none) : remE E c = E := by
  refine List.filter_eq_self.2 (fun x hx => ?_)
  simp only [Bool.not_eq_true', beq_eq_false_iff_ne]
  intro e
  have : ∀ {E : Ats}, x ∈ E → parE E c ≠ none := by
    intro E
    induction E with
    | nil => intro h; cases h
    | cons a r ih =>
      intro h
      unfold parE
      split
      · simp
      · rcases List.mem_cons.1 h with rfl | h
        · rename_i h'; exact absurd e h'
        · exact ih h
  exact this hx h
theorem rem_ins {c p : Txt} : ∀ {E : Ats}, remE (insE c p E) c = remE E c
  | [] => by simp [insE, remE]
  | e :: r => by
    unfold insE
    split
    · show List.filter _ _ = _
      rw [List.filter_cons_of_neg (by simp)]
      rfl
    · split
      · rename_i h
        show List.filter _ ((c, p) :: r) = List.filter _ (e :: r)
        rw [List.filter_cons_of_neg (by simp), List.filter_cons_of_neg (by simp [h])]
      · rename_i h1 h2
        show List.filter _ (e :: insE c p r) = List.filter _ (e :: r)
        rw [List.filter_cons_of_pos (by simp; exact fun e' => h2 e'.symm), List.filter_cons_of_pos (by simp; exact fun e' => h2 e'.symm)]
        exact congrArg _ rem_ins
theorem mem_kids {E : Ats} (h : rightE E = true) (s x : Txt) : x ∈ kidsE E s ↔ parE E x = some s := by
  unfold kidsE
  rw [if_pos h]
  simp only [List.mem_map, List.mem_filter, beq_iff_eq]
  constructor
  · rintro ⟨⟨a, b⟩, ⟨h1, rfl⟩, rfl⟩
    exact par_of (right_parts h).2.2.1 h1
  · intro hp
    exact ⟨(x, s), ⟨par_pair hp, rfl⟩, rfl⟩
theorem mem_below {E : Ats} (h : rightE E = true) (s x : Txt) : x ∈ belowE E s ↔ isUpE E s x = true := by
  unfold belowE
  rw [if_pos h]
  simp only [List.mem_map, List.mem_filter]
  constructor
  · rintro ⟨e, ⟨-, h1⟩, rfl⟩
    exact h1
  · intro hu
    obtain ⟨m, h1, -, h3⟩ := (up_iff _ _ _).1 hu
    obtain ⟨j, rfl⟩ : ∃ j, m = j + 1 := ⟨m - 1, by omega⟩
    rw [itF] at h3
    cases hf : parE E x with
    | none => rw [hf] at h3; cases h3
    | some p => exact ⟨(x, p), ⟨par_pair hf, hu⟩, rfl⟩
theorem kid_below {E : Ats} (h : rightE E = true) (s x : Txt) (hx : x ∈ kidsE E s) : x ∈ belowE E s :=
  (mem_below h s x).2 ((up_all h s x).2 ⟨1, Nat.le_refl _, by rw [itF, (mem_kids h s x).1 hx]; rfl⟩)
theorem below_kid {E : Ats} (h : rightE E = true) (s x : Txt) (hx : x ∈ belowE E s) : x ∈ kidsE E s ∨ ∃ k ∈ kidsE E s, x ∈ belowE E k := by
  obtain ⟨m, h1, h3⟩ := (up_all h s x).1 ((mem_below h s x).1 hx)
  rcases Nat.lt_or_ge m 2 with hm | hm
  · obtain rfl : m = 1 := by omega
    left
    rw [mem_kids h]
    rw [itF] at h3
    cases hf : parE E x with
    | none => rw [hf] at h3; cases h3
    | some p => rw [hf] at h3; injection h3 with h3; rw [h3]
  · right
    obtain ⟨y, hy, hy2⟩ := itF_some h3 (show m - 1 ≤ m by omega)
    refine ⟨y, (mem_kids h s y).2 ?_, (mem_below h y x).2 ((up_all h y x).2 ⟨m - 1, by omega, hy⟩)⟩
    rw [show m - (m - 1) = 1 by omega, itF] at hy2
    cases hf : parE E y with
    | none => rw [hf] at hy2; cases hy2
    | some p => rw [hf] at hy2; injection hy2 with hy2; rw [hy2]
theorem kids_len (E : Ats) (s : Txt) : (kidsE E s).length ≤ (belowE E s).length := by
  cases h : rightE E with
  | false => simp [kidsE, h]
  | true =>
    unfold kidsE belowE
    rw [if_pos h, if_pos h, List.length_map, List.length_map]
    rw [← List.countP_eq_length_filter, ← List.countP_eq_length_filter]
    refine List.countP_mono_left (fun e he h1 => ?_)
    have h1' : e.2 = s := by simpa using h1
    have hp : parE E e.1 = some s := par_of (right_parts h).2.2.1 (by rw [← h1']; exact he)
    exact (up_all h s e.1).2 ⟨1, Nat.le_refl _, by rw [itF, hp]; rfl⟩
theorem both (E : Ats) (a b : Txt) : (upsE E a).contains b = (belowE E b).contains a := by
  cases h : rightE E with
  | false => simp [upsE, belowE, h]
  | true =>
    rw [Bool.eq_iff_iff, List.contains_iff_mem, List.contains_iff_mem, mem_below h]
    unfold upsE isUpE
    rw [if_pos h, List.contains_iff_mem]
theorem not_self (E : Ats) (a : Txt) : (upsE E a).contains a = false := by
  cases h : rightE E with
  | false => simp [upsE, h]
  | true =>
    cases hc : (upsE E a).contains a with
    | false => rfl
    | true =>
      unfold upsE at hc
      rw [if_pos h] at hc
      obtain ⟨m, h1, h3⟩ := (up_all h a a).1 hc
      exact absurd h3 (acyc h m a h1)
end Go.Proofs.Ytgodmppmiamhaaa
