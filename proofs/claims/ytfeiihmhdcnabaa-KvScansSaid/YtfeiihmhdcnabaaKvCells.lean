/-
  Pairs in memory: a slice of them as cells; small laws of what is read. No program's function, no condition.
-/
import Derived.Test.YtfeiihmhdcnabaaKvMap
import Derived.Laws.AppendOwn
namespace Go.Proofs.Ytfeiihmhdcnabaa
set_option linter.unusedVariables false
set_option linter.unusedSimpArgs false
open Go.RowKit Go.MapKept
theorem infoP : (Try.prog.info? 39).map (fun i => (i.zero, i.size, i.bytes)) = some (some (.agg #[.string ⟨#[]⟩, .string ⟨#[]⟩]), 2, 32) := by kernel_rfl
def atCells (al : Ats) : List Value := al.flatMap fun p => [.string ⟨p.1.toArray⟩, .string ⟨p.2.toArray⟩]
theorem atCells_len (al : Ats) : (atCells al).length = al.length * 2 := by
  induction al with
  | nil => rfl
  | cons p r ih => simp only [atCells, List.flatMap_cons, List.length_append, List.length_cons, List.length_nil] at ih ⊢; omega
theorem atCells_get (al : Ats) : ∀ i (h : i < al.length), (atCells al)[i * 2]? = some (.string ⟨(al[i]'h).1.toArray⟩) ∧ (atCells al)[i * 2 + 1]? = some (.string ⟨(al[i]'h).2.toArray⟩) := by
  induction al with
  | nil => intro i h; cases h
  | cons p r ih =>
    intro i h
    cases i with
    | zero => exact ⟨rfl, rfl⟩
    | succ i =>
      have := ih i (by simpa using h)
      rw [show (i + 1) * 2 = i * 2 + 1 + 1 by omega]
      exact this
theorem atCells_of (al : Ats) (j : Nat) (u : Value) (h : (atCells al)[j]? = some u) : (∃ i, ∃ hi : i < al.length, j = i * 2 ∧ u = .string ⟨(al[i]'hi).1.toArray⟩) ∨ (∃ i, ∃ hi : i < al.length, j = i * 2 + 1 ∧ u = .string ⟨(al[i]'hi).2.toArray⟩) := by
  have hj : j < al.length * 2 := by rw [← atCells_len]; exact (List.getElem?_eq_some_iff.1 h).1
  rcases Nat.mod_two_eq_zero_or_one j with h0 | h0
  · have e : j = j / 2 * 2 := by omega
    rw [e, (atCells_get al (j / 2) (by omega)).1] at h
    exact .inl ⟨j / 2, by omega, e, (Option.some.inj h).symm⟩
  · have e : j = j / 2 * 2 + 1 := by omega
    rw [e, (atCells_get al (j / 2) (by omega)).2] at h
    exact .inr ⟨j / 2, by omega, e, (Option.some.inj h).symm⟩
theorem atCells_one (al : Ats) : ∀ u ∈ atCells al, u.oneCell' = true := by
  intro u hu
  obtain ⟨j, hj⟩ := List.getElem?_of_mem hu
  rcases atCells_of al j u hj with ⟨i, hi', _, rfl⟩ | ⟨i, hi', _, rfl⟩ <;> rfl
theorem owns_pair {w : World} {base : Nat} {v : Value} {E : Ats} (h : w.ownsRow base 39 2 v E.length (atCells E)) : AtS w v E := by
  rcases h.2 with ⟨rfl, h0⟩ | ⟨g, cap, cur, rfl, hb, hg, h1, h2, -⟩
  · exact ⟨none, 0, by rw [h0], by omega, by simp, fun h' => absurd h' (by omega)⟩
  · refine ⟨some ⟨g, 0, none⟩, cap, rfl, h1, h2, fun _ => ⟨g, 0, rfl, (Array.getElem?_eq_some_iff.1 hg).1, fun i hi => ?_⟩⟩
    have hc := World.ownsRow.cells h (g := g) rfl
    have c0 := hc (i * 2) _ (atCells_get E i hi).1
    have c1 := hc (i * 2 + 1) _ (atCells_get E i hi).2
    rw [Addr.add_lit] at c0 c1
    refine ⟨c0, ?_⟩
    rw [Nat.add_assoc]
    exact c1
def vC (c p : Txt) : List Value := [.string ⟨c.toArray⟩, .string ⟨p.toArray⟩]
theorem vC_one (c p : Txt) : ∀ v ∈ vC c p, v.oneCell' = true := by intro v hv; simp [vC] at hv; rcases hv with rfl | rfl <;> rfl
theorem vC_cells {w : World} {vb : Nat} {c p : Txt} (hv : w.heap[vb]? = some (.cells #[.string ⟨c.toArray⟩, .string ⟨p.toArray⟩] 39)) : ∀ j u, (vC c p)[j]? = some u → w.cell? ⟨vb, 0 + j, none⟩ = some u := by
  intro j u hu
  rw [Nat.zero_add, (obj_cells hv).1 j]
  simpa [vC] using hu
theorem rem_snoc {E : Ats} {c : Txt} {k : Nat} (h : k < E.length) : remE (E.take (k + 1)) c = remE (E.take k) c ++ (if (E[k]'h).1 = c then [] else [E[k]'h]) := by
  unfold remE
  rw [List.take_add_one, List.getElem?_eq_getElem h, List.filter_append]
  congr 1
  by_cases hc : (E[k]'h).1 = c <;> simp [hc]
theorem rem_len (E : Ats) (c : Txt) (k : Nat) : (remE (E.take k) c).length ≤ k := Nat.le_trans (List.length_filter_le _ _) (by simp; omega)
theorem rem_par {E : Ats} {c : Txt} (h : parE E c ≠ none) : (remE E c).length ≠ E.length := by
  intro hl
  have he := List.filter_eq_self.1 (List.length_filter_eq_length_iff.1 hl |> fun h' => List.filter_eq_self.2 h')
  refine h (par_small (fun e hm hc => ?_))
  have := he e hm
  simp [hc] at this
theorem atC_app (a b : Ats) : atCells (a ++ b) = atCells a ++ atCells b := by simp [atCells]
theorem par_hit {c : Txt} : ∀ {E : Ats} {k : Nat} (h : k < E.length), (∀ i (hi : i < E.length), i < k → (E[i]'hi).1 ≠ c) → (E[k]'h).1 = c → parE E c = some (E[k]'h).2
  | e :: r, 0, _, _, h => by
    have h' : e.1 = c := by simpa using h
    show (if e.1 = c then some e.2 else parE r c) = _
    rw [if_pos h']
    simp
  | e :: r, k + 1, hk, hn, h => by
    have h0 : ¬ e.1 = c := hn 0 (by simp) (by omega)
    show (if e.1 = c then some e.2 else parE r c) = _
    rw [if_neg h0]
    have := par_hit (E := r) (k := k) (by simpa using hk) (fun i hi hlt => by have := hn (i + 1) (by simpa using hi) (by omega); simpa using this) (by simpa using h)
    rw [this]
    simp
theorem par_no {E : Ats} {c : Txt} (h : ∀ i (hi : i < E.length), (E[i]'hi).1 ≠ c) : parE E c = none := par_small (fun e he => by obtain ⟨i, hi, rfl⟩ := List.getElem_of_mem he; exact h i hi)
theorem owns_shp {w : World} {base : Nat} {e : TypeId} {size : Nat} {v : Value} {n : Nat} {xs : List Value} (h : w.ownsRow base e size v n xs) : ∃ a c, v = .slice a n c := by
  rcases h.2 with ⟨rfl, h0⟩ | ⟨g, cap, cur, rfl, _⟩
  · exact ⟨none, 0, by rw [h0]⟩
  · exact ⟨_, _, rfl⟩
theorem owns_below {w w' : World} {base : Nat} {e : TypeId} {size : Nat} {v : Value} {n : Nat} {xs : List Value} (h : w.ownsRow base e size v n xs) (hb : Below w.heap.size w w') : w'.ownsRow base e size v n xs := by
  refine ⟨h.1, ?_⟩
  rcases h.2 with h2 | ⟨g, cap, cur, h1, h2, h3, h4⟩
  · exact .inl h2
  · exact .inr ⟨g, cap, cur, h1, h2, (hb.block g (Array.getElem?_eq_some_iff.1 h3).1).trans h3, h4⟩
theorem ins_all {c p : Txt} {R : Ats} : ∀ {P : Ats}, (∀ x ∈ P, x.1 < c) → insE c p (P ++ R) = P ++ insE c p R
  | [], _ => rfl
  | h :: P, hp => by
    have h0 : h.1 < c := hp h (by simp)
    have h1 : ¬ c < h.1 := fun h' => tl_irrefl c (tl_trans h' h0)
    have h2 : ¬ c = h.1 := fun e => tl_irrefl c (by rw [← e] at h0; exact h0)
    show (if c < h.1 then _ else if c = h.1 then _ else h :: insE c p (P ++ R)) = _
    rw [if_neg h1, if_neg h2, ins_all (fun x hx => hp x (by simp [hx]))]
    rfl
theorem ins_some {c p : Txt} {R : Ats} : ∀ {P : Ats}, (∃ x ∈ P, ¬ x.1 < c) → insE c p (P ++ R) = insE c p P ++ R
  | [], h => by obtain ⟨x, hx, _⟩ := h; cases hx
  | h :: P, hp => by
    show (if c < h.1 then (c, p) :: h :: (P ++ R) else if c = h.1 then (c, p) :: (P ++ R) else h :: insE c p (P ++ R)) = (if c < h.1 then (c, p) :: h :: P else if c = h.1 then (c, p) :: P else h :: insE c p P) ++ R
    by_cases h1 : c < h.1
    · rw [if_pos h1, if_pos h1]; rfl
    · by_cases h2 : c = h.1
      · rw [if_neg h1, if_neg h1, if_pos h2, if_pos h2]; rfl
      · rw [if_neg h1, if_neg h1, if_neg h2, if_neg h2]
        have : insE c p (P ++ R) = insE c p P ++ R := ins_some (by
          obtain ⟨x, hx, hn⟩ := hp
          rcases List.mem_cons.1 hx with rfl | hx
          · rcases tl_tri x.1 c with h | h | h
            · exact absurd h hn
            · exact absurd h.symm h2
            · exact absurd h h1
          · exact ⟨x, hx, hn⟩)
        rw [this]; rfl
theorem underP : Try.prog.underlying 36 = some (.slice 39) := Try.underlying36
/-- a slice stays where one block is written that holds no text -/
theorem AtS.but {w w' : World} {sv : Value} {E : Ats} {b' : Nat} (h : AtS w sv E) (hg : w.grownBy w' (some b')) (hn : ∀ o s, w.cell? ⟨b', o, none⟩ ≠ some (.string s)) : AtS w' sv E := by
  obtain ⟨ptr, cap, h1, h2, h2', h3⟩ := h
  refine ⟨ptr, cap, h1, h2, h2', fun h0 => ?_⟩
  obtain ⟨b, o, h4, h5, h6⟩ := h3 h0
  have hne : b ≠ b' := fun e => hn _ _ (by rw [← e]; exact (h6 0 h0).1)
  have hc : ∀ j, w'.cell? ⟨b, j, none⟩ = w.cell? ⟨b, j, none⟩ := fun j => World.cell?_of_block (w := w) (hg.block b h5 (fun e => hne (Option.some.inj e)))
  exact ⟨b, o, h4, Nat.lt_of_lt_of_le h5 hg.size, fun i hi => ⟨(hc _).trans (h6 i hi).1, (hc _).trans (h6 i hi).2⟩⟩
/-- the reference's map -/
def RfS (w : World) (g : Nat) (E : Ats) : Prop := okE E ∧ ∃ ptr cap, w.heap[g]? = some (.cells #[.slice ptr E.length cap] 71) ∧ AtS w (.slice ptr E.length cap) E
theorem RfS.no_str {w : World} {g : Nat} {E : Ats} (h : RfS w g E) : ∀ o s, w.cell? ⟨g, o, none⟩ ≠ some (.string s) := by
  obtain ⟨-, p, c, h1, -⟩ := h
  intro o s
  rw [(obj_cells h1).1]
  cases o with
  | zero => simp
  | succ o => simp
theorem KvS.no_str {w : World} {g b : Nat} {E : Ats} (h : KvS w g b E) : ∀ o s, w.cell? ⟨b, o, none⟩ ≠ some (.string s) := by
  obtain ⟨-, -, es, cl, h1, -⟩ := h
  intro o s
  simp [World.cell?, h1]
theorem RfS.but {w w' : World} {g b' : Nat} {E : Ats} (h : RfS w g E) (hg : w.grownBy w' (some b')) (hne : g ≠ b') (hn : ∀ o s, w.cell? ⟨b', o, none⟩ ≠ some (.string s)) : RfS w' g E := by
  obtain ⟨h0, p, c, h1, h2⟩ := h
  exact ⟨h0, p, c, (hg.block g (Array.getElem?_eq_some_iff.1 h1).1 (fun e => hne (Option.some.inj e))).trans h1, h2.but hg hn⟩
theorem RfS.below {w w' : World} {g : Nat} {E : Ats} (h : RfS w g E) (hb : Below w.heap.size w w') : RfS w' g E := by
  obtain ⟨h0, p, c, h1, h2⟩ := h
  exact ⟨h0, p, c, (hb.block g (Array.getElem?_eq_some_iff.1 h1).1).trans h1, h2.below hb⟩
theorem KvS.below {w w' : World} {g b : Nat} {E : Ats} (h : KvS w g b E) (hb : Below w.heap.size w w') : KvS w' g b E :=
  h.keep (row := none) ⟨hb.os, hb.tape, hb.output, hb.size, fun i hi _ => hb.block i hi⟩ (by simp) (by simp)
end Go.Proofs.Ytfeiihmhdcnabaa
