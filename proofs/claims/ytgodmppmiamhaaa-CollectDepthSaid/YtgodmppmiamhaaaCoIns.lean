/-
  Edges copied, one laid between, one taken out (slices.Clone, Insert, Delete), by the program. Condition: at most 1000 edges.
-/
import Derived.Test.YtgodmppmiamhaaaCoKids
import Derived.Shelf.Spec.SlicesInsertGrow
import Derived.Lib.SlicesDelete
import Derived.Deep.RegionLaw
namespace Go.Proofs.Ytgodmppmiamhaaa
set_option linter.unusedVariables false
set_option linter.unusedSimpArgs false
open Go.RowKit Go.MapKept Go.Shelf
theorem infoE : (Try.prog.info? 58).map (fun i => (i.zero, i.size, i.bytes)) = some (some (.agg #[.string ⟨#[]⟩, .string ⟨#[]⟩]), 2, 32) := by kernel_rfl
def atCells (al : Ats) : List Value := al.flatMap fun p => [.string ⟨p.1.toArray⟩, .string ⟨p.2.toArray⟩]
theorem atCells_len (al : Ats) : (atCells al).length = al.length * 2 := by
  induction al with
  | nil => rfl
  | cons p r ih => simp only [atCells, List.flatMap_cons, List.length_append, List.length_cons, List.length_nil] at ih ⊢; omega
theorem atCells_get (al : Ats) : ∀ i (h : i < al.length), (atCells al)[i * 2]? = some (.string ⟨(al[i]'h).1.toArray⟩) ∧ (atCells al)[i * 2 + 1]? = some (.string ⟨(al[i]'h).2.toArray⟩) := by
  induction al with
  | nil => intro i h; cases h
  | cons p r ih =>
    intro i h
    cases i with
    | zero => exact ⟨rfl, rfl⟩
    | succ i =>
      have := ih i (by simpa using h)
      rw [show (i + 1) * 2 = i * 2 + 1 + 1 by omega]
      exact this
theorem atCells_of (al : Ats) (j : Nat) (u : Value) (h : (atCells al)[j]? = some u) : (∃ i, ∃ hi : i < al.length, j = i * 2 ∧ u = .string ⟨(al[i]'hi).1.toArray⟩) ∨ (∃ i, ∃ hi : i < al.length, j = i * 2 + 1 ∧ u = .string ⟨(al[i]'hi).2.toArray⟩) := by
  have hj : j < al.length * 2 := by rw [← atCells_len]; exact (List.getElem?_eq_some_iff.1 h).1
  rcases Nat.mod_two_eq_zero_or_one j with h0 | h0
  · have e : j = j / 2 * 2 := by omega
    rw [e, (atCells_get al (j / 2) (by omega)).1] at h
    exact .inl ⟨j / 2, by omega, e, (Option.some.inj h).symm⟩
  · have e : j = j / 2 * 2 + 1 := by omega
    rw [e, (atCells_get al (j / 2) (by omega)).2] at h
    exact .inr ⟨j / 2, by omega, e, (Option.some.inj h).symm⟩
theorem atCells_one (al : Ats) : ∀ u ∈ atCells al, u.oneCell' = true := by
  intro u hu
  obtain ⟨j, hj⟩ := List.getElem?_of_mem hu
  rcases atCells_of al j u hj with ⟨i, hi', _, rfl⟩ | ⟨i, hi', _, rfl⟩ <;> rfl
theorem nilE (n c : Nat) (w : World) : (binOp .eql 23 (.slice none n c) (.slice none 0 0)).run Try.prog w = .ok (.bool true) w := by kernel_rfl
theorem someE (ad : Addr) (n c : Nat) (w : World) : (binOp .eql 23 (.slice (some ad) n c) (.slice none 0 0)).run Try.prog w = .ok (.bool false) w := by kernel_rfl
theorem owns_edge {w : World} {base : Nat} {v : Value} {E : Ats} (h : w.ownsRow base 58 2 v E.length (atCells E)) : AtS w v E := by
  rcases h.2 with ⟨rfl, h0⟩ | ⟨g, cap, cur, rfl, hb, hg, h1, h2, -⟩
  · exact ⟨none, 0, by rw [h0], by omega, by simp, fun h' => absurd h' (by omega)⟩
  · refine ⟨some ⟨g, 0, none⟩, cap, rfl, h1, h2, fun _ => ⟨g, 0, rfl, (Array.getElem?_eq_some_iff.1 hg).1, fun i hi => ?_⟩⟩
    have hc := World.ownsRow.cells h (g := g) rfl
    have c0 := hc (i * 2) _ (atCells_get E i hi).1
    have c1 := hc (i * 2 + 1) _ (atCells_get E i hi).2
    rw [Addr.add_lit] at c0 c1
    refine ⟨c0, ?_⟩
    rw [Nat.add_assoc]
    exact c1
theorem cloneE_any (sv : Value) (E : Ats) (w : World) (h : AtS w sv E) (hl : E.length * 32 ≤ 140737488351232) :
    Calls Try.prog 31 #[sv] w fun e w' => ∃ sv', e = .returned sv' ∧ w'.ownsRow w.heap.size 58 2 sv' E.length (atCells E) ∧ Below w.heap.size w w' := by
  obtain ⟨i0, hi, hz0, hz1, hz2⟩ := info_parts infoE
  obtain ⟨ptr, cap, rfl, hc1, hc2, hat⟩ := h
  cases ptr with
  | none =>
    have h0 : E = [] := by
      rcases Nat.eq_zero_or_pos E.length with h | h
      · exact List.length_eq_zero_iff.1 h
      · obtain ⟨b, o, hp, -⟩ := hat h; cases hp
    subst h0
    have hn := nilE
    go_enter Try.func31, Try.ntmps31
    go_wp2
    go_ret
    exact ⟨_, rfl, World.ownsRow_nil _ _ _ _, Below.refl _ _⟩
  | some ad =>
    have hn := someE
    have hO : (w.alloc (.cells #[] 58)).ownsRow w.heap.size 58 2 (.slice (some ⟨w.heap.size, 0, none⟩) 0 0) 0 [] := ⟨rfl, .inr ⟨w.heap.size, 0, #[], rfl, Nat.le_refl _, (heap_alloc _ _).1, Nat.le_refl _, by simp, rfl, rfl⟩⟩
    have hnews : ∀ j u, (atCells E)[j]? = some u → (w.alloc (.cells #[] 58)).cell? (ad.add j) = some u := by
      intro j u hj
      have hj' : j < E.length * 2 := by rw [← atCells_len]; exact (List.getElem?_eq_some_iff.1 hj).1
      obtain ⟨b, o, hp, hb, hcell⟩ := hat (by omega)
      have hp := Option.some.inj hp
      subst hp
      rw [Addr.add_lit, World.cell?_alloc_lt _ _ ⟨b, o + j, none⟩ hb]
      rcases atCells_of E j u hj with ⟨i, hi', rfl, rfl⟩ | ⟨i, hi', rfl, rfl⟩
      · exact (hcell i hi').1
      · rw [← Nat.add_assoc]; exact (hcell i hi').2
    go_enter Try.func31, Try.ntmps31
    go_wp2_with (at_builtin; refine wpList_append_own _ rfl _ _ 23 rfl w.heap.size 58 i0 (.agg #[.string ⟨#[]⟩, .string ⟨#[]⟩]) 2 32 Try.underlying23 hi hz0 hz1 hz2 rfl (by decide) _ _ _ rfl hO ad E.length cap (atCells E) rfl (atCells_len E) hnews (atCells_one E) (by unfold maxLen; omega) (by omega) (by simp) ?_; intro v' w2 hO2 hg2 _)
    go_ret
    rw [Nat.zero_add, List.nil_append] at hO2
    refine ⟨_, rfl, ?_, (below1 w _).grown hg2 (by simp) (fun k hk => by cases hk; exact Nat.le_refl _)⟩
    exact hO2
theorem zeroE : ∀ w, (zeroValue 58).run Try.prog w = .ok (.agg #[.string ⟨#[]⟩, .string ⟨#[]⟩]) w := fun w => by kernel_rfl
theorem sizeE : ∀ w, (Go.sizeOf 58).run Try.prog w = .ok 2 w := fun w => by kernel_rfl
section
variable {P : Program}
/-- copy, elements of two cells -/
theorem run_copy2 (w : World) (dT sT ty elem : TypeId) (b o dLen dCap : Nat) (a : Addr) (sLen sCap : Nat) (cs : List Value)
    (hu : P.underlying dT = some (.slice elem)) (hs : (P.info? elem).map (·.size) = some 2) (hn : cs.length = Nat.min sLen dLen * 2)
    (hsrc : ∀ j v, cs[j]? = some v → w.cell? (a.add j) = some v) (hc : ∀ j, j < cs.length → (w.cell? ⟨b, o + j, none⟩).isSome = true) (hf : ∀ j, j < cs.length → w.frozen? ⟨b, o + j, none⟩ = false) (h1 : ∀ v ∈ cs, v.oneCell' = true) :
    (Builtin.copy_ #[dT, sT] ty #[.slice (some ⟨b, o, none⟩) dLen dCap, .slice (some a) sLen sCap]).run P w = .ok (goInt (Nat.min sLen dLen)) (w.setCells b o cs) := by
  have hl := run_loadCells_list (P := P) w a cs hsrc
  have hst := run_storeCells_cells (P := P) b o cs 0 w (by simpa using hc) (by simpa using hf) h1
  cases hq : P.info? elem with
  | none => simp [hq] at hs
  | some i =>
    have hi : i.size = 2 := by simpa [hq] using hs
    simp [Builtin.copy_, run_underlying hu, Builtin.lenOf, Builtin.firstCells, sizeOf, typeInfo, hq, hi, ← hn, hl, hst]
/-- clear, one element of two strings -/
theorem run_clear2 (w : World) (t e ty : TypeId) (ht : P.underlying t = some (.slice e)) (hv : ∀ w, (zeroValue e).run P w = .ok (.agg #[.string ⟨#[]⟩, .string ⟨#[]⟩]) w) (b o c : Nat)
    (hc : ∀ j, j < 2 → (w.cell? ⟨b, o + j, none⟩).isSome = true) (hf : ∀ j, j < 2 → w.frozen? ⟨b, o + j, none⟩ = false) :
    (Builtin.clear_ #[t] ty #[.slice (some ⟨b, o, none⟩) 1 c]).run P w = .ok (.tuple #[]) (w.setCells b o [.string ⟨#[]⟩, .string ⟨#[]⟩]) := by
  have hst := run_storeCells_cells (P := P) b o [.string ⟨#[]⟩, .string ⟨#[]⟩] 0 w (by simpa using hc) (by simpa using hf) (by intro v hv'; simp at hv'; subst hv'; rfl)
  simp only [Nat.add_zero] at hst
  have hzc : (Builtin.zeroCells (Value.agg #[.string ⟨#[]⟩, .string ⟨#[]⟩]).cells 1).toList = [.string ⟨#[]⟩, .string ⟨#[]⟩] := by kernel_rfl
  simp [Builtin.clear_, run_underlying ht, hv, hzc, hst]
end
theorem underE : Try.prog.underlying 23 = some (.slice 58) := Try.underlying23
theorem sz2 : (Try.prog.info? 58).map (·.size) = some 2 := by kernel_rfl
theorem ov_run (vb g o lb cb : Nat) (w : World) (hvb : vb ≠ g) (x : Array Value) (hv : w.heap[vb]? = some (.cells x 58)) (h2 : x.size = 2) (cur : Array Value) (hg : w.heap[g]? = some (.cells cur 58)) (hk : cur.size ≠ 0) :
    (callFunc 50 #[.slice (some ⟨vb, 0, none⟩) 1 1, .slice (some ⟨g, o, none⟩) lb cb]).run Try.prog w = .ok (.value (.bool false)) w := by
  rw [run_callFunc_extern Try.func50 (by kernel_rfl) (by kernel_rfl) (by kernel_rfl) (e := Extern.SlicesOverlaps.overlaps #[23, 23] #[4]) (by kernel_rfl),
      Lib.run_overlaps_apart w 23 4 58 underE 2 sizeE ⟨vb, 0, none⟩ ⟨g, o, none⟩ 1 1 lb cb hvb 58 58 2 cur.size (by simp [World.shape?, hv, h2]) (by simp [World.shape?, hg]) hk (obj_cells hv |>.2.1 0) (obj_cells hv |>.2.1 2)]
  rfl
end Go.Proofs.Ytgodmppmiamhaaa
