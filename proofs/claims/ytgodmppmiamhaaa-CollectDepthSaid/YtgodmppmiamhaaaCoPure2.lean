/-
  Edges in order: the place of a child; one edge put in its place, or taken out, there (plain). No condition.
-/
import Derived.Test.YtgodmppmiamhaaaCoPure
namespace Go.Proofs.Ytgodmppmiamhaaa
set_option linter.unusedVariables false
set_option linter.unusedSimpArgs false
open Go.RowKit Go.MapKept
theorem tl_cons {a b : UInt8} {x y : Txt} : a :: x < b :: y ↔ a < b ∨ (a = b ∧ x < y) := List.cons_lt_cons_iff
theorem tl_irrefl : ∀ a : Txt, ¬ a < a
  | [] => List.not_lt_nil _
  | a :: x => by
    rw [tl_cons]
    rintro (h | ⟨-, h⟩)
    · exact UInt8.lt_irrefl _ h
    · exact tl_irrefl x h
theorem tl_trans : ∀ {a b c : Txt}, a < b → b < c → a < c
  | _, [], _, h, _ => absurd h (List.not_lt_nil _)
  | _, _ :: _, [], _, h => absurd h (List.not_lt_nil _)
  | [], _ :: _, c :: z, _, _ => List.nil_lt_cons c z
  | a :: x, b :: y, c :: z, h1, h2 => by
    rw [tl_cons] at h1 h2 ⊢
    rcases h1 with h1 | ⟨rfl, h1⟩
    · rcases h2 with h2 | ⟨rfl, h2⟩
      · exact .inl (UInt8.lt_trans h1 h2)
      · exact .inl h1
    · rcases h2 with h2 | ⟨rfl, h2⟩
      · exact .inl h2
      · exact .inr ⟨rfl, tl_trans h1 h2⟩
theorem tl_tri : ∀ a b : Txt, a < b ∨ a = b ∨ b < a
  | [], [] => .inr (.inl rfl)
  | [], b :: y => .inl (List.nil_lt_cons b y)
  | a :: x, [] => .inr (.inr (List.nil_lt_cons a x))
  | a :: x, b :: y => by
    rw [tl_cons, tl_cons]
    rcases Nat.lt_trichotomy a.toNat b.toNat with h | h | h
    · exact .inl (.inl (UInt8.lt_iff_toNat_lt.2 h))
    · obtain rfl := UInt8.toNat_inj.1 h
      rcases tl_tri x y with h | rfl | h
      · exact .inl (.inr ⟨rfl, h⟩)
      · exact .inr (.inl rfl)
      · exact .inr (.inr (.inr ⟨rfl, h⟩))
    · exact .inr (.inr (.inl (UInt8.lt_iff_toNat_lt.2 h)))
/-- i is the place of c -/
def PosE (E : Ats) (c : Txt) (i : Nat) : Prop := i ≤ E.length ∧ (∀ j (h : j < E.length), j < i → (E[j]'h).1 < c) ∧ ∀ j (h : j < E.length), i ≤ j → ¬ (E[j]'h).1 < c
def hitE (E : Ats) (c : Txt) (i : Nat) : Bool := match E[i]? with
  | some e => e.1 == c
  | none => false
theorem par_small : ∀ {E : Ats} {c : Txt}, (∀ e ∈ E, ¬ e.1 = c) → parE E c = none
  | [], _, _ => rfl
  | e :: r, c, h => by
    unfold parE
    rw [if_neg (h e (by simp))]
    exact par_small (fun x hx => h x (by simp [hx]))
theorem pos_head {e : Txt × Txt} {r : Ats} {c : Txt} (hs : sortE (e :: r)) (h : ¬ e.1 < c) : ∀ x ∈ r, c < x.1 := by
  intro x hx
  have h1 : e.1 < x.1 := (List.pairwise_cons.1 hs).1 x hx
  rcases tl_tri e.1 c with h2 | h2 | h2
  · exact absurd h2 h
  · exact h2 ▸ h1
  · exact tl_trans h2 h1
theorem pos_tail {e : Txt × Txt} {r : Ats} {c : Txt} {i : Nat} (h : PosE (e :: r) c (i + 1)) : PosE r c i := by
  obtain ⟨h1, h2, h3⟩ := h
  refine ⟨by simpa using h1, fun j hj hi => ?_, fun j hj hi => ?_⟩
  · have := h2 (j + 1) (by simpa using hj) (by omega); simpa using this
  · have := h3 (j + 1) (by simpa using hj) (by omega); simpa using this
/-- at its place the child stands, or nowhere; there it is put in, and taken out -/
theorem pos_all : ∀ {E : Ats} {c : Txt} {i : Nat}, sortE E → PosE E c i →
    (hitE E c i = true → ∃ h : i < E.length, (E[i]'h).1 = c ∧ parE E c = some (E[i]'h).2 ∧ (∀ p, insE c p E = E.set i (c, p)) ∧ remE E c = E.eraseIdx i) ∧
    (hitE E c i = false → parE E c = none ∧ (∀ p, insE c p E = E.take i ++ (c, p) :: E.drop i) ∧ remE E c = E)
  | [], c, i, _, hp => by
    obtain rfl : i = 0 := by have := hp.1; simpa using this
    exact ⟨fun h => by simp [hitE] at h, fun _ => ⟨rfl, fun p => rfl, rfl⟩⟩
  | e :: r, c, 0, hs, hp => by
    have h0 : ¬ e.1 < c := hp.2.2 0 (by simp) (Nat.le_refl _)
    have hr := pos_head hs h0
    have hfil : remE r c = r := List.filter_eq_self.2 (fun x hx => by simp; intro e'; exact tl_irrefl c (by have := hr x hx; rw [e'] at this; exact this))
    constructor
    · intro h
      have he : e.1 = c := by simpa [hitE] using h
      refine ⟨by simp, he, by show (if e.1 = c then some e.2 else _) = _; rw [if_pos he]; rfl, fun p => ?_, ?_⟩
      · unfold insE
        rw [if_neg (by rw [he]; exact tl_irrefl c), if_pos he.symm]
        rfl
      · show List.filter _ (e :: r) = _
        rw [List.filter_cons_of_neg (by simp [he])]
        exact hfil
    · intro h
      have he : ¬ e.1 = c := by simpa [hitE] using h
      have hlt : c < e.1 := by
        rcases tl_tri e.1 c with h2 | h2 | h2
        · exact absurd h2 h0
        · exact absurd h2 he
        · exact h2
      refine ⟨par_small (fun x hx => ?_), fun p => ?_, ?_⟩
      · rcases List.mem_cons.1 hx with rfl | hx
        · exact he
        · intro e'; exact tl_irrefl c (by have := hr x hx; rw [e'] at this; exact this)
      · unfold insE
        rw [if_pos hlt]
        rfl
      · show List.filter _ (e :: r) = _
        rw [List.filter_cons_of_pos (by simp [he])]
        exact congrArg _ hfil
  | e :: r, c, i + 1, hs, hp => by
    have h0 : e.1 < c := hp.2.1 0 (by simp) (by omega)
    have hne : ¬ e.1 = c := fun e' => tl_irrefl c (e' ▸ h0)
    have hnl : ¬ c < e.1 := fun h => tl_irrefl c (tl_trans h h0)
    obtain ⟨A, B⟩ := pos_all (List.pairwise_cons.1 hs).2 (pos_tail hp)
    have hpar : parE (e :: r) c = parE r c := by show (if e.1 = c then some e.2 else parE r c) = _; rw [if_neg hne]
    have hins : ∀ p, insE c p (e :: r) = e :: insE c p r := fun p => by show (if c < e.1 then _ else if c = e.1 then _ else e :: insE c p r) = _; rw [if_neg hnl, if_neg (fun e' => hne e'.symm)]
    have hrem : remE (e :: r) c = e :: remE r c := by show List.filter _ (e :: r) = _; rw [List.filter_cons_of_pos (by simp [hne])]; rfl
    have hh : hitE (e :: r) c (i + 1) = hitE r c i := by simp [hitE]
    constructor
    · intro h
      obtain ⟨hi, h1, h2, h3, h4⟩ := A (hh ▸ h)
      exact ⟨by simpa using hi, by simpa using h1, by rw [hpar, h2]; simp, fun p => by rw [hins, h3]; rfl, by rw [hrem, h4]; rfl⟩
    · intro h
      obtain ⟨h2, h3, h4⟩ := B (hh ▸ h)
      exact ⟨by rw [hpar, h2], fun p => by rw [hins, h3]; rfl, by rw [hrem, h4]⟩
theorem ins_sort (c p : Txt) : ∀ {E : Ats}, sortE E → sortE (insE c p E)
  | [], _ => by simp [insE, sortE]
  | e :: r, hs => by
    obtain ⟨h1, h2⟩ := List.pairwise_cons.1 hs
    unfold insE
    split
    · rename_i h
      exact List.pairwise_cons.2 ⟨fun x hx => by rcases List.mem_cons.1 hx with rfl | hx; · exact h
                                                 · exact tl_trans h (h1 x hx), hs⟩
    · split
      · rename_i h
        exact List.pairwise_cons.2 ⟨fun x hx => by show c < x.1; rw [h]; exact h1 x hx, h2⟩
      · rename_i h3 h4
        refine List.pairwise_cons.2 ⟨fun x hx => ?_, ins_sort c p h2⟩
        rcases ins_mem hx with rfl | hx
        · rcases tl_tri e.1 c with h | h | h
          · exact h
          · exact absurd h.symm h4
          · exact absurd h h3
        · exact h1 x hx
theorem ins_len (c p : Txt) : ∀ {E : Ats}, sortE E → (insE c p E).length = if parE E c = none then E.length + 1 else E.length
  | [], _ => rfl
  | e :: r, hs => by
    obtain ⟨h1, h2⟩ := List.pairwise_cons.1 hs
    unfold insE
    split
    · rename_i h
      rw [par_small (fun x hx => ?_), if_pos rfl]
      · simp
      · rcases List.mem_cons.1 hx with rfl | hx
        · intro e'; exact tl_irrefl c (by rw [e'] at h; exact h)
        · intro e'; exact tl_irrefl c (by have := tl_trans h (h1 x hx); rw [e'] at this; exact this)
    · split
      · rename_i h
        have : parE (e :: r) c = some e.2 := by show (if e.1 = c then some e.2 else _) = _; rw [if_pos h.symm]
        rw [this, if_neg (by simp)]
        simp
      · rename_i h3 h4
        have : parE (e :: r) c = parE r c := by show (if e.1 = c then some e.2 else parE r c) = _; rw [if_neg (fun e' => h4 e'.symm)]
        rw [this, List.length_cons, ins_len c p h2]
        split <;> simp
end Go.Proofs.Ytgodmppmiamhaaa
