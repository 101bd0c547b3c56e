/-
  An element's tokens (write.Element). Conditions: each slice of attributes takes at most 2^47 bytes.
-/
import Derived.Test.YtjpdadibeocpfaaDoorWrTok
import Derived.Test.YtjpdadibeocpfaaDoorTxA
import Derived.Maps.AppendAt
import Derived.RangeFuncBox
import Derived.OwnWalk
import Derived.LoopTactic
namespace Go.Proofs.YtjpdadibeocpfaaDoor
set_option linter.unusedVariables false
set_option linter.unusedSimpArgs false
open Go.RowKit Go.MapKept
theorem infoA : (Tryd.prog.info? 39).map (fun i => (i.zero, i.size, i.bytes)) = some (some (.agg #[.string ⟨#[]⟩, .string ⟨#[]⟩]), 2, 32) := by kernel_rfl
theorem infoT : (Tryd.prog.info? 35).map (fun i => (i.zero, i.size, i.bytes)) = some (some (.agg #[.int .u8 0, .string ⟨#[]⟩, .slice none 0 0, .string ⟨#[]⟩]), 4, 64) := by kernel_rfl
def atCells (al : Ats) : List Value := al.flatMap fun p => [.string ⟨p.1.toArray⟩, .string ⟨p.2.toArray⟩]
theorem atCells_len (al : Ats) : (atCells al).length = al.length * 2 := by
  induction al with
  | nil => rfl
  | cons p r ih => simp only [atCells, List.flatMap_cons, List.length_append, List.length_cons, List.length_nil] at ih ⊢; omega
theorem atCells_get (al : Ats) : ∀ i (h : i < al.length), (atCells al)[i * 2]? = some (.string ⟨(al[i]'h).1.toArray⟩) ∧ (atCells al)[i * 2 + 1]? = some (.string ⟨(al[i]'h).2.toArray⟩) := by
  induction al with
  | nil => intro i h; cases h
  | cons p r ih =>
    intro i h
    cases i with
    | zero => exact ⟨rfl, rfl⟩
    | succ i =>
      have := ih i (by simpa using h)
      rw [show (i + 1) * 2 = i * 2 + 1 + 1 by omega]
      exact this
theorem atCells_of (al : Ats) (j : Nat) (u : Value) (h : (atCells al)[j]? = some u) : (∃ i, ∃ hi : i < al.length, j = i * 2 ∧ u = .string ⟨(al[i]'hi).1.toArray⟩) ∨ (∃ i, ∃ hi : i < al.length, j = i * 2 + 1 ∧ u = .string ⟨(al[i]'hi).2.toArray⟩) := by
  have hj : j < al.length * 2 := by rw [← atCells_len]; exact (List.getElem?_eq_some_iff.1 h).1
  rcases Nat.mod_two_eq_zero_or_one j with h0 | h0
  · have e : j = j / 2 * 2 := by omega
    rw [e, (atCells_get al (j / 2) (by omega)).1] at h
    exact .inl ⟨j / 2, by omega, e, (Option.some.inj h).symm⟩
  · have e : j = j / 2 * 2 + 1 := by omega
    rw [e, (atCells_get al (j / 2) (by omega)).2] at h
    exact .inr ⟨j / 2, by omega, e, (Option.some.inj h).symm⟩
/-- a slice of attributes whose block meets a condition -/
def AtX (ok : Nat → Prop) (w : World) (sv : Value) (al : Ats) : Prop :=
  ∃ ptr cap, sv = .slice ptr al.length cap ∧ al.length ≤ cap ∧ cap ≤ maxLen ∧ (0 < al.length → ∃ b o, ptr = some ⟨b, o, none⟩ ∧ b < w.heap.size ∧ ok b ∧
    ∀ i (h : i < al.length), w.cell? ⟨b, o + i * 2, none⟩ = some (.string ⟨(al[i]'h).1.toArray⟩) ∧ w.cell? ⟨b, o + i * 2 + 1, none⟩ = some (.string ⟨(al[i]'h).2.toArray⟩))
theorem AtX.at {ok : Nat → Prop} {w : World} {sv : Value} {al : Ats} (h : AtX ok w sv al) : AtS w sv al := by
  obtain ⟨p, c, h1, h2, h3, h4⟩ := h
  exact ⟨p, c, h1, h2, h3, fun h0 => by obtain ⟨b, o, h5, h6, -, h7⟩ := h4 h0; exact ⟨b, o, h5, h6, h7⟩⟩
theorem AtS.x {w : World} {sv : Value} {al : Ats} (h : AtS w sv al) : AtX (fun b => b < w.heap.size) w sv al := by
  obtain ⟨p, c, h1, h2, h3, h4⟩ := h
  exact ⟨p, c, h1, h2, h3, fun h0 => by obtain ⟨b, o, h5, h6, h7⟩ := h4 h0; exact ⟨b, o, h5, h6, h6, h7⟩⟩
theorem AtX.mono {ok ok' : Nat → Prop} {w : World} {sv : Value} {al : Ats} (h : AtX ok w sv al) (hk : ∀ b, ok b → ok' b) : AtX ok' w sv al := by
  obtain ⟨p, c, h1, h2, h3, h4⟩ := h
  exact ⟨p, c, h1, h2, h3, fun h0 => by obtain ⟨b, o, h5, h6, h6', h7⟩ := h4 h0; exact ⟨b, o, h5, h6, hk b h6', h7⟩⟩
theorem AtX.keep {ok : Nat → Prop} {w w' : World} {sv : Value} {al : Ats} (h : AtX ok w sv al) (hs : w.heap.size ≤ w'.heap.size) (hb : ∀ b, b < w.heap.size → ok b → w'.heap[b]? = w.heap[b]?) : AtX ok w' sv al := by
  obtain ⟨p, c, h1, h2, h3, h4⟩ := h
  refine ⟨p, c, h1, h2, h3, fun h0 => ?_⟩
  obtain ⟨b, o, h5, h6, h6', h7⟩ := h4 h0
  have hc : ∀ j, w'.cell? ⟨b, j, none⟩ = w.cell? ⟨b, j, none⟩ := fun j => World.cell?_of_block (a := ⟨b, j, none⟩) (hb b h6 h6')
  exact ⟨b, o, h5, Nat.lt_of_lt_of_le h6 hs, h6', fun i hi => ⟨(hc _).trans (h7 i hi).1, (hc _).trans (h7 i hi).2⟩⟩
theorem atCells_one (al : Ats) : ∀ u ∈ atCells al, u.oneCell' = true := by
  intro u hu
  obtain ⟨j, hj⟩ := List.getElem?_of_mem hu
  rcases atCells_of al j u hj with ⟨i, hi', _, rfl⟩ | ⟨i, hi', _, rfl⟩ <;> rfl
theorem nilA (n c : Nat) (w : World) : (binOp .eql 33 (.slice none n c) (.slice none 0 0)).run Tryd.prog w = .ok (.bool true) w := by kernel_rfl
theorem someA (ad : Addr) (n c : Nat) (w : World) : (binOp .eql 33 (.slice (some ad) n c) (.slice none 0 0)).run Tryd.prog w = .ok (.bool false) w := by kernel_rfl
theorem owns_at {w : World} {base n : Nat} {v : Value} {al : Ats} (h : w.ownsRow base 39 2 v n (atCells al)) (hn : n = al.length) : AtX (fun b => base ≤ b) w v al := by
  subst hn
  rcases h.2 with ⟨rfl, h0⟩ | ⟨g, cap, cur, rfl, hb, hg, h1, h2, -⟩
  · exact ⟨none, 0, by rw [h0], by omega, by simp, fun h' => absurd h' (by omega)⟩
  · refine ⟨some ⟨g, 0, none⟩, cap, rfl, h1, h2, fun _ => ⟨g, 0, rfl, (Array.getElem?_eq_some_iff.1 hg).1, hb, fun i hi => ?_⟩⟩
    have hc := World.ownsRow.cells h (g := g) rfl
    have c0 := hc (i * 2) _ (atCells_get al i hi).1
    have c1 := hc (i * 2 + 1) _ (atCells_get al i hi).2
    rw [Addr.add_lit] at c0 c1
    refine ⟨c0, ?_⟩
    rw [Nat.add_assoc]
    exact c1
theorem clone_any (sv : Value) (al : Ats) (w : World) (h : AtS w sv al) (hl : al.length * 32 ≤ 140737488351232) :
    Calls Tryd.prog 23 #[sv] w fun e w' => ∃ sv', e = .returned sv' ∧ AtX (fun b => w.heap.size ≤ b) w' sv' al ∧ Below w.heap.size w w' := by
  obtain ⟨i0, hi, hz0, hz1, hz2⟩ := info_parts infoA
  obtain ⟨ptr, cap, rfl, hc1, hc2, hat⟩ := h
  cases ptr with
  | none =>
    have h0 : al = [] := by
      rcases Nat.eq_zero_or_pos al.length with h | h
      · exact List.length_eq_zero_iff.1 h
      · obtain ⟨b, o, hp, -⟩ := hat h; cases hp
    subst h0
    have hn := nilA
    go_enter Tryd.func23, Tryd.ntmps23
    go_wp2
    go_ret
    exact ⟨_, rfl, ⟨none, 0, rfl, by simp, by simp, fun h => absurd h (by simp)⟩, Below.refl _ _⟩
  | some ad =>
    have hn := someA
    have hO : (w.alloc (.cells #[] 39)).ownsRow w.heap.size 39 2 (.slice (some ⟨w.heap.size, 0, none⟩) 0 0) 0 [] := ⟨rfl, .inr ⟨w.heap.size, 0, #[], rfl, Nat.le_refl _, (heap_alloc _ _).1, Nat.le_refl _, by simp, rfl, rfl⟩⟩
    have hnews : ∀ j u, (atCells al)[j]? = some u → (w.alloc (.cells #[] 39)).cell? (ad.add j) = some u := by
      intro j u hj
      have hj' : j < al.length * 2 := by rw [← atCells_len]; exact (List.getElem?_eq_some_iff.1 hj).1
      obtain ⟨b, o, hp, hb, hcell⟩ := hat (by omega)
      have hp := Option.some.inj hp
      subst hp
      rw [Addr.add_lit, World.cell?_alloc_lt _ _ ⟨b, o + j, none⟩ hb]
      rcases atCells_of al j u hj with ⟨i, hi', rfl, rfl⟩ | ⟨i, hi', rfl, rfl⟩
      · exact (hcell i hi').1
      · rw [← Nat.add_assoc]; exact (hcell i hi').2
    go_enter Tryd.func23, Tryd.ntmps23
    go_wp2_with (at_builtin; refine wpList_append_own _ rfl _ _ 33 rfl w.heap.size 39 i0 (.agg #[.string ⟨#[]⟩, .string ⟨#[]⟩]) 2 32 Tryd.underlying33 hi hz0 hz1 hz2 rfl (by decide) _ _ _ rfl hO ad al.length cap (atCells al) rfl (atCells_len al) hnews (atCells_one al) (by unfold maxLen; omega) (by omega) (by simp) ?_; intro v' w2 hO2 hg2 _)
    go_ret
    rw [Nat.zero_add, List.nil_append] at hO2
    refine ⟨_, rfl, ?_, (below1 w _).grown hg2 (by simp) (fun k hk => by cases hk; exact Nat.le_refl _)⟩
    exact owns_at hO2 rfl
end Go.Proofs.YtjpdadibeocpfaaDoor
