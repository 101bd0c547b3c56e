/-
  Who is above a name (Above: slices.Collect over the iterator), by the program. Condition: at most 1000 edges.
-/
import Derived.Test.YtgodmppmiamhaaaCoPar
namespace Go.Proofs.Ytgodmppmiamhaaa
set_option linter.unusedVariables false
set_option linter.unusedSimpArgs false
open Go.RowKit Go.MapKept Go.Shelf
attribute [local go_sem] Oper.semAt_some
theorem upF_len {α : Type} {f : α → Option α} : ∀ (n : Nat) (x : α), (upF f n x).length ≤ n
  | 0, x => Nat.le_refl _
  | n + 1, x => by
    unfold upF
    cases f x with
    | none => exact Nat.zero_le _
    | some y => simpa using upF_len n y
def strC (l : List Txt) : List Value := l.map fun n => .string ⟨n.toArray⟩
theorem infoSt : (Try.prog.info? 9).map (fun i => (i.zero, i.size, i.bytes)) = some (some (.string ⟨#[]⟩), 1, 16) := by kernel_rfl
/-- a slice of strings -/
def StS (w : World) (v : Value) (l : List Txt) : Prop :=
  ∃ ptr cap, v = .slice ptr l.length cap ∧ l.length ≤ cap ∧ cap ≤ maxLen ∧ (0 < l.length → ∃ b o, ptr = some ⟨b, o, none⟩ ∧ b < w.heap.size ∧ ∀ i (h : i < l.length), w.cell? ⟨b, o + i, none⟩ = some (.string ⟨(l[i]'h).toArray⟩))
theorem StS.below {w w' : World} {v : Value} {l : List Txt} (h : StS w v l) (hb : Below w.heap.size w w') : StS w' v l := by
  obtain ⟨p, c, h1, h2, h3, h4⟩ := h
  refine ⟨p, c, h1, h2, h3, fun h0 => ?_⟩
  obtain ⟨b, o, h5, h6, h7⟩ := h4 h0
  exact ⟨b, o, h5, Nat.lt_of_lt_of_le h6 hb.size, fun i hi => ((bat hb b h6).1 _).trans (h7 i hi)⟩
theorem owns_sts {w : World} {base : Nat} {v : Value} {l : List Txt} (h : w.ownsRow base 9 1 v l.length (strC l)) : StS w v l := by
  rcases h.2 with ⟨rfl, h0⟩ | ⟨g, cap, cur, rfl, hb, hg, h1, h2, -⟩
  · exact ⟨none, 0, by rw [h0], by omega, by simp, fun h' => absurd h' (by omega)⟩
  · refine ⟨some ⟨g, 0, none⟩, cap, rfl, h1, h2, fun _ => ⟨g, 0, rfl, (Array.getElem?_eq_some_iff.1 hg).1, fun i hi => ?_⟩⟩
    have hc := World.ownsRow.cells h (g := g) rfl i _ (show (strC l)[i]? = some (.string ⟨(l[i]'hi).toArray⟩) by simp [strC, hi])
    rw [Addr.add_lit] at hc
    exact hc
theorem owns_down {w : World} {b1 b2 : Nat} {e : TypeId} {size : Nat} {v : Value} {n : Nat} {xs : List Value} (h : w.ownsRow b1 e size v n xs) (hb : b2 ≤ b1) : w.ownsRow b2 e size v n xs := by
  refine ⟨h.1, ?_⟩
  rcases h.2 with h2 | ⟨g, cap, cur, h1, h2, h3⟩
  · exact .inl h2
  · exact .inr ⟨g, cap, cur, h1, Nat.le_trans hb h2, h3⟩
/-- between two rounds: the box holds what has come -/
def ApI (w : World) (B : Nat) (pre : List Txt) (W : World) : Prop :=
  (∃ sv, Boxed W B 35 sv ∧ W.ownsRow (B + 3) 9 1 sv pre.length (strC pre)) ∧ Below w.heap.size w W
theorem apI_stands (w : World) (B : Nat) (R : Nat → Prop) (hR : ∀ r, R r → w.heap.size ≤ r ∧ r ≠ B ∧ r < B + 3) : StandsR R (ApI w B) := by
  rintro s A C row ⟨⟨sv, hb, ho⟩, hB⟩ hg hr
  refine ⟨⟨sv, hb.kept hg (fun e => (hR _ (hr _ e.symm)).2.1 rfl), ho.kept hg ?_⟩, hB.grown hg hB.size (fun k hk => (hR k (hr k hk)).1)⟩
  cases hv : sv.ownBlock with
  | none => exact .inl rfl
  | some g =>
    refine .inr fun e => ?_
    have h1 := (ho.lt g hv).1
    have h2 := (hR _ (hr _ e.symm)).2.2
    omega
set_option maxRecDepth 100000 in
set_option maxHeartbeats 2000000 in
theorem appendUp_any (v : Value) (E : Ats) (c : Txt) (w V : World) (Bl Bn : Nat) (hA : AtS w v E) (hl : E.length ≤ 1000) (hs : sortE E) (hB : Below w.heap.size w V) (hBl : w.heap.size ≤ Bl) (hBn : w.heap.size ≤ Bn) (hne : Bl ≠ Bn)
    (hbl : V.heap[Bl]? = some (.cells #[v] 23)) (hbn : V.heap[Bn]? = some (.cells #[.string ⟨c.toArray⟩] 9)) :
    Calls Try.prog 53 #[.slice none 0 0, .func (.func 54) #[] #[.pointer (some ⟨Bl, 0, none⟩), .pointer (some ⟨Bn, 0, none⟩)]] V fun e C => ∃ sv, e = .returned sv ∧ StS C sv (upF (parE E) E.length c) ∧ Below w.heap.size w C := by
  obtain ⟨i0, hi, hz0, hz1, hz2⟩ := info_parts infoSt
  have lBl := (Array.getElem?_eq_some_iff.1 hbl).1
  have lBn := (Array.getElem?_eq_some_iff.1 hbn).1
  have sV := hB.size
  have hG := up_gives w _ E c hA hl hs (V.alloc (.cells #[.slice none 0 0] 35)) Bl Bn (hB.alloc hB.size _) hBl hBn hne (obj_alloc hbl) (obj_alloc hbn)
  have h0 : ApI w V.heap.size [] (V.alloc (.cells #[.slice none 0 0] 35)) := ⟨⟨_, Boxed.new _ _ _, World.ownsRow_nil _ _ _ _⟩, hB.alloc hB.size _⟩
  have hlen : (upF (parE E) E.length c).length ≤ 1000 := Nat.le_trans (upF_len _ _) hl
  replace hA := Lib.hid hA
  replace hl := Lib.hid hl
  clear hbl hbn
  refine (callsIn_wide (n := 3)).1 ?_
  refine callsIn_of_wp_marks Try.func53 rfl trivial ?_ rfl
  simp only [Try.ntmps53, List.size_toArray, List.length_cons, List.length_nil, Nat.reduceAdd, Nat.reduceSub, Array.replicate_succ, Array.replicate_zero, List.push_toArray, List.append_toArray, List.nil_append, List.cons_append]
  gi_wp2
  refine range_ownR rfl (by decide) (gf := 54) (lb := #[.pointer (some ⟨Bl, 0, none⟩), .pointer (some ⟨Bn, 0, none⟩)]) rfl trivial (enters_of Try.func54 (by kernel_rfl) rfl) (R := (· = Bn)) (fun r h => by subst h; simp only [World.size_alloc]; omega) hG (fun _ => rfl) (fun h k => h.trans k)
    (fun A o h => keepUput A o (by simp only [World.size_alloc]; omega) (by simp only [World.size_alloc]; omega) (by simp only [World.size_alloc]; omega)) (ApI w V.heap.size) (fun _ _ => False) (apI_stands w V.heap.size _ (fun r h => by simp only [World.size_alloc] at h; omega)) (fun _ _ _ _ h _ _ => h) h0
    (fun x => { tmps := #[.slice none 0 0, .func (.func 54) #[] #[.pointer (some ⟨Bl, 0, none⟩), .pointer (some ⟨Bn, 0, none⟩)], .pointer (some ⟨V.heap.size, 0, none⟩), undef, .slice none 0 0, .string ⟨x.toArray⟩, .func (.func 54) #[] #[.pointer (some ⟨Bl, 0, none⟩), .pointer (some ⟨Bn, 0, none⟩)], .string ⟨x.toArray⟩, undef, undef, undef, undef, undef], defers := [] }) ?assign ?body ?done ?stop
  case assign =>
    intro l x W K hK
    gi_wp2
    exact hK
  case body =>
    rintro l pre x W hsz hsp ⟨⟨sv, hb, hO⟩, hBW⟩
    simp only [World.size_alloc] at hsz
    have hpl : pre.length + 1 ≤ 1000 := by have := hsp.length_le; simp only [List.length_append, List.length_cons, List.length_nil] at this; omega
    have b0 := hb.cell
    have b1 := hb.frozen
    have b2 := hb.lt
    clear hG h0
    obtain ⟨na, nc, rfl⟩ : ∃ a c, sv = .slice a pre.length c := by
      rcases hO.2 with ⟨rfl, h0⟩ | ⟨g, cap, cur, rfl, _⟩
      · exact ⟨none, 0, by rw [h0]⟩
      · exact ⟨_, _, rfl⟩
    replace hb := Lib.hid hb
    have hnr : ∀ k, (Value.slice na pre.length nc).ownBlock = some k → V.heap.size + 3 ≤ k := fun k hk => (hO.lt k hk).1
    replace hnr := Lib.hid hnr
    gi_wp2_with (gi_at_builtin; refine wpListIn_append_own _ rfl _ _ 35 rfl (V.heap.size + 3) 9 i0 (.string ⟨#[]⟩) 1 16 Try.underlying35 hi hz0 hz1 hz2 rfl (by decide) _ _ _ rfl (hO.alloc _) ⟨W.heap.size, 0, none⟩ 1 1 [.string ⟨x.toArray⟩] rfl rfl (cell_one_new _ _ _) (by simp [Value.oneCell']) (by unfold maxLen; omega) (by omega) (by simp only [World.size_alloc]; omega) ?_
                 intro v' w2 hO2 hg2 _
                 have hO3 : w2.ownsRow (V.heap.size + 3) 9 1 v' (pre ++ [x]).length (strC (pre ++ [x])) := by simpa [strC] using hO2
                 obtain ⟨hx1, hx2, hx3, hx4, hx5⟩ := hb.out.appended (by decide) (owns_down hO (by omega)) (by omega) (Nat.le_refl _) (owns_down hO3 (by omega)) hg2
                 obtain ⟨g', c', rfl⟩ := ownsRow_succ hO2
                 have z0 := hx1.cell
                 have z1 := hx1.frozen
                 have z2 := hx1.lt)
    have hO4 := hO3.kept (grownBy_setCell' w2 V.heap.size (.slice (some ⟨g', 0, none⟩) (pre.length + 1) c')) (.inr (hx1.not_row (by decide) hO3).symm)
    refine ⟨hx4.from _, ⟨hx5.os, hx5.tape, hx5.output, hx4.size, fun k hk hc => ?_⟩, ⟨⟨_, hx2, hO4⟩, hBW.trans (hx5.mono sV)⟩⟩
    exact hx5.block k (by omega)
  case done =>
    rintro xs W hxs ⟨⟨sv, hb, hO⟩, hBW⟩ hK
    subst hxs
    have b0 := hb.cell
    have b1 := hb.frozen
    have b2 := hb.lt
    have hS := owns_sts hO
    obtain ⟨na, nc, rfl⟩ : ∃ a c', sv = .slice a (upF (parE E) E.length c).length c' := by obtain ⟨a, c, h, -⟩ := hS; exact ⟨a, c, h⟩
    simp only [World.size_alloc] at hK ⊢
    clear hG h0
    gi_wp2
    refine ⟨by simp, .inl ⟨_, _, rfl, run_takeDeferred hK, ?_⟩⟩
    refine ⟨_, results_tmp rfl _ _ _, _, rfl, ?_, hBW.trans (belowK_b (w := w) (Nat.le_refl _) W (V.heap.size + 1) _ _ (by omega) hK rfl rfl)⟩
    exact owns_sts (ownsRow_putObj hO _ hK rfl)
  case stop =>
    rintro pre W hpre h hK
    exact h.elim
theorem collectUp_any (v : Value) (E : Ats) (c : Txt) (w V : World) (Bl Bn : Nat) (hA : AtS w v E) (hl : E.length ≤ 1000) (hs : sortE E) (hB : Below w.heap.size w V) (hBl : w.heap.size ≤ Bl) (hBn : w.heap.size ≤ Bn) (hne : Bl ≠ Bn)
    (hbl : V.heap[Bl]? = some (.cells #[v] 23)) (hbn : V.heap[Bn]? = some (.cells #[.string ⟨c.toArray⟩] 9)) :
    Calls Try.prog 36 #[.func (.func 54) #[] #[.pointer (some ⟨Bl, 0, none⟩), .pointer (some ⟨Bn, 0, none⟩)]] V fun e C => ∃ sv, e = .returned sv ∧ StS C sv (upF (parE E) E.length c) ∧ Below w.heap.size w C := by
  have h := Lib.hid (appendUp_any v E c w V Bl Bn hA hl hs hB hBl hBn hne hbl hbn)
  clear hA hB hbl hbn
  go_enter Try.func36, Try.ntmps36
  go_wp2_with (go_at_call 53; refine h.out.mono ?_; rintro e w1 ⟨sv, rfl, hS, hb1⟩; obtain ⟨na, nc, rfl⟩ : ∃ a c', sv = .slice a (upF (parE E) E.length c).length c' := (by obtain ⟨a, c, h, -⟩ := hS; exact ⟨a, c, h⟩); replace hS := Lib.hid hS; replace hb1 := Lib.hid hb1)
  go_ret
  exact ⟨_, rfl, hS.out, hb1.out⟩
theorem sts_nil (w : World) : StS w (.slice none 0 0) [] := ⟨none, 0, rfl, Nat.zero_le _, by simp, fun h => absurd h (by simp)⟩
theorem above_any (v : Value) (E : Ats) (c : Txt) (w : World) (hA : AtS w v E) (hl : E.length ≤ 1000) :
    Calls Try.prog 15 #[v, .string ⟨c.toArray⟩] w fun e C => ∃ sv, e = .returned sv ∧ StS C sv (upsE E c) ∧ Below w.heap.size w C := by
  obtain ⟨vp, vc, rfl⟩ : ∃ a c, v = .slice a E.length c := by obtain ⟨a, c, h, -⟩ := hA; exact ⟨a, c, h⟩
  have hR := Lib.hid (coRight_any _ E w hA hl)
  by_cases hr : rightE E = true
  · have hu : Hid (upsE E c = upF (parE E) E.length c) := Lib.hid (by simp [upsE, hr, aboveE])
    have hs := (right_parts hr).2.2.1
    have hC : ∀ W1, Below w.heap.size w W1 → Calls Try.prog 36 #[.func (.func 54) #[] #[.pointer (some ⟨W1.heap.size, 0, none⟩), .pointer (some ⟨W1.heap.size + 1, 0, none⟩)]] ((W1.alloc (.cells #[.slice vp E.length vc] 23)).alloc (.cells #[.string ⟨c.toArray⟩] 9)) fun e C => ∃ sv, e = .returned sv ∧ StS C sv (upF (parE E) E.length c) ∧ Below W1.heap.size W1 C := fun W1 hb =>
      collectUp_any _ E c W1 _ W1.heap.size (W1.heap.size + 1) (hA.below hb) hl hs (belowA (below1 _ _) _) (Nat.le_refl _) (Nat.le_succ _) (by omega) (obj_alloc (heap_alloc _ _).1) (by have := (heap_alloc (W1.alloc (.cells #[.slice vp E.length vc] 23)) (.cells #[.string ⟨c.toArray⟩] 9)).1; rwa [World.size_alloc] at this)
    replace hC := Lib.hid hC
    clear hA
    go_enter Try.func15, Try.ntmps15
    go_wp2_with (first
      | (go_at_call 11; refine hR.out.mono ?_; rintro e w1 ⟨rfl, hb1⟩; rw [hr]; replace hb1 := Lib.hid hb1)
      | (go_at_call 37; refine (up_any _ ⟨_, _, _, rfl⟩ _ _).mono ?_; rintro e w2 ⟨rfl, rfl⟩)
      | (go_at_call 36; refine (hC.out _ hb1.out).mono ?_; rintro e w3 ⟨sv, rfl, hS, hb3⟩; obtain ⟨na, nc, rfl⟩ : ∃ a c', sv = .slice a (upF (parE E) E.length c).length c' := (by obtain ⟨a, c, h, -⟩ := hS; exact ⟨a, c, h⟩); replace hS := Lib.hid hS; replace hb3 := Lib.hid hb3))
    go_ret
    rw [hu.out]
    exact ⟨_, rfl, hS.out, belowT hb1.out hb3.out⟩
  · have hr' : rightE E = false := by simpa using hr
    have hu : Hid (upsE E c = []) := Lib.hid (by simp [upsE, hr'])
    clear hA
    go_enter Try.func15, Try.ntmps15
    go_wp2_with (go_at_call 11; refine hR.out.mono ?_; rintro e w1 ⟨rfl, hb1⟩; rw [hr']; replace hb1 := Lib.hid hb1)
    go_ret
    rw [hu.out]
    exact ⟨_, rfl, sts_nil _, hb1.out⟩
end Go.Proofs.Ytgodmppmiamhaaa
