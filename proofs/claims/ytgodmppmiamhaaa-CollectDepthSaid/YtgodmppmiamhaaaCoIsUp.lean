/-
  Whether a name is above another one (isUp), by the program. Condition: edges in order, at most 1000.
-/
import Derived.Test.YtgodmppmiamhaaaCoUp
import Derived.RangeFuncKeeps
namespace Go.Proofs.Ytgodmppmiamhaaa
set_option linter.unusedVariables false
set_option linter.unusedSimpArgs false
open Go.RowKit Go.MapKept Go.Shelf
attribute [local go_sem] Oper.semAt_some
theorem up_gives (w : World) (v : Value) (E : Ats) (c : Txt) (hA : AtS w v E) (hl : E.length ≤ 1000) (hs : sortE E) (W : World) (Bl Bn : Nat) (hB : Below w.heap.size w W) (hBl : w.heap.size ≤ Bl) (hBn : w.heap.size ≤ Bn) (hne : Bl ≠ Bn)
    (hbl : W.heap[Bl]? = some (.cells #[v] 23)) (hbn : W.heap[Bn]? = some (.cells #[.string ⟨c.toArray⟩] 9)) :
    GivesR (· = Bn) Fence.wide 2 Try.prog 54 #[.pointer (some ⟨Bl, 0, none⟩), .pointer (some ⟨Bn, 0, none⟩)] (fun x : Txt => #[.string ⟨x.toArray⟩]) (KeepU w.heap.size Bl Bn) (fun xs => xs = upF (parE E) E.length c) (fun pre => pre <+: upF (parE E) E.length c) W := by
  intro l J Jx W1 hb hsz hJ hJx hY h0
  exact up1_in l Bl Bn w.heap.size w rfl v E c hA hl hs J Jx W1 (hB.trans (hb.mono hB.size)) hBl hBn hne hJ hY ((hb.block Bl (Array.getElem?_eq_some_iff.1 hbl).1).trans hbl) ((hb.block Bn (Array.getElem?_eq_some_iff.1 hbn).1).trans hbn) h0
theorem keepUput {n₀ Bl Bn L : Nat} (A : World) (o : Obj) (h1 : n₀ ≤ L) (h2 : L ≠ Bl) (h3 : L ≠ Bn) : KeepU n₀ Bl Bn A (A.putObj L o) := by
  have hg := grown_putR (A := A) (l := L) o
  exact ⟨hg.os, hg.tape, hg.output, hg.size, fun k hk hc => hg.block k hk (fun e => by injection e with e; omega)⟩
theorem load_boolC (ad : Addr) (b : Bool) (w : World) (h : w.cell? ad = some (.bool b)) : (loadVar 4 ad).run Try.prog w = .ok (.bool b) w := by
  simp [loadVar, Sem.run_bind, go_sem, h]
def IsI (w : World) (name : Txt) (pre : List Txt) (W : World) : Prop :=
  (∀ x ∈ pre, x ≠ name) ∧ W.heap[w.heap.size]? = some (.cells #[.string ⟨name.toArray⟩] 9) ∧ W.heap[w.heap.size + 1]? = some (.cells #[.bool false] 4) ∧ Below w.heap.size w W
def IsR (w : World) (name : Txt) (pre : List Txt) (W : World) : Prop :=
  name ∈ pre ∧ W.heap[w.heap.size + 1]? = some (.cells #[.bool true] 4) ∧ Below w.heap.size w W
theorem isI_stands (w : World) (name : Txt) (R : Nat → Prop) (hR : ∀ r, R r → w.heap.size + 2 ≤ r) : StandsR R (IsI w name) := by
  rintro s A C row ⟨h, c0, c1, hb⟩ hg hr
  have n0 : some w.heap.size ≠ row := fun e => by have := hR _ (hr _ e.symm); omega
  have n1 : some (w.heap.size + 1) ≠ row := fun e => by have := hR _ (hr _ e.symm); omega
  exact ⟨h, (hg.block _ (Array.getElem?_eq_some_iff.1 c0).1 n0).trans c0, (hg.block _ (Array.getElem?_eq_some_iff.1 c1).1 n1).trans c1, hb.grown hg hb.size (fun k hk => by have := hR k (hr k hk); omega)⟩
theorem isR_stands (w : World) (name : Txt) (R : Nat → Prop) (hR : ∀ r, R r → w.heap.size + 2 ≤ r) : StandsR R (IsR w name) := by
  rintro s A C row ⟨h, c1, hb⟩ hg hr
  have n1 : some (w.heap.size + 1) ≠ row := fun e => by have := hR _ (hr _ e.symm); omega
  exact ⟨h, (hg.block _ (Array.getElem?_eq_some_iff.1 c1).1 n1).trans c1, hb.grown hg hb.size (fun k hk => by have := hR k (hr k hk); omega)⟩
theorem four (w : World) (o0 o1 o2 o3 : Obj) : ((((w.alloc o0).alloc o1).alloc o2).alloc o3).heap[w.heap.size]? = some o0 ∧ ((((w.alloc o0).alloc o1).alloc o2).alloc o3).heap[w.heap.size + 1]? = some o1 ∧ ((((w.alloc o0).alloc o1).alloc o2).alloc o3).heap[w.heap.size + 1 + 1]? = some o2 ∧ ((((w.alloc o0).alloc o1).alloc o2).alloc o3).heap[w.heap.size + 1 + 1 + 1]? = some o3 := by
  have e : ∀ (A : World) (o : Obj) (b : Nat), b = A.heap.size → (A.alloc o).heap[b]? = some o := fun A o b hb => by subst hb; exact (heap_alloc A o).1
  exact ⟨obj_alloc (obj_alloc (obj_alloc (e w o0 _ rfl))), obj_alloc (obj_alloc (e _ o1 _ (by rw [World.size_alloc]))), obj_alloc (e _ o2 _ (by rw [World.size_alloc, World.size_alloc])), e _ o3 _ (by rw [World.size_alloc, World.size_alloc, World.size_alloc])⟩
set_option maxRecDepth 100000 in
set_option maxHeartbeats 2000000 in
theorem isUp_any (v : Value) (E : Ats) (name below : Txt) (w : World) (hA : AtS w v E) (hl : E.length ≤ 1000) (hs : sortE E) :
    Calls Try.prog 30 #[v, .string ⟨name.toArray⟩, .string ⟨below.toArray⟩] w fun e w' => e = .returned (.bool (isUpE E name below)) ∧ Below w.heap.size w w' := by
  obtain ⟨vp, vc, rfl⟩ : ∃ a c, v = .slice a E.length c := by obtain ⟨a, c, h, -⟩ := hA; exact ⟨a, c, h⟩
  obtain ⟨N, hN⟩ : ∃ N, E.length = N := ⟨_, rfl⟩
  obtain ⟨f0, f1, f2, f3⟩ := four w (.cells #[.string ⟨name.toArray⟩] 9) (.cells #[.bool false] 4) (.cells #[.slice vp E.length vc] 23) (.cells #[.string ⟨below.toArray⟩] 9)
  have hb4 : Below w.heap.size w ((((w.alloc (.cells #[.string ⟨name.toArray⟩] 9)).alloc (.cells #[.bool false] 4)).alloc (.cells #[.slice vp E.length vc] 23)).alloc (.cells #[.string ⟨below.toArray⟩] 9)) := belowA (belowA (belowA (below1 w _) _) _) _
  have hG := up_gives w _ E below hA hl hs _ (w.heap.size + 1 + 1) (w.heap.size + 1 + 1 + 1) hb4 (by omega) (by omega) (by omega) f2 f3
  replace hA := Lib.hid hA
  replace hl := Lib.hid hl
  rw [hN] at f0 f1 f2 f3 hb4 hG ⊢
  refine (callsIn_wide (n := 3)).1 ?_
  refine callsIn_of_wp_marks Try.func30 rfl trivial ?_ rfl
  simp only [Try.ntmps30, List.size_toArray, List.length_cons, List.length_nil, Nat.reduceAdd, Nat.reduceSub, Array.replicate_succ, Array.replicate_zero, List.push_toArray, List.append_toArray, List.nil_append, List.cons_append]
  gi_wp2_with (refine ⟨trivial, ?_⟩; gi_at_call 37; refine (callsIn_wide.2 (up_any _ ⟨_, _, _, rfl⟩ _ _)).mono ?_; rintro e w1 ⟨rfl, rfl⟩)
  refine range_ownR rfl (by decide) (gf := 54) (lb := #[.pointer (some ⟨w.heap.size + 1 + 1, 0, none⟩), .pointer (some ⟨w.heap.size + 1 + 1 + 1, 0, none⟩)]) rfl trivial (enters_of Try.func54 (by kernel_rfl) rfl) (R := (· = w.heap.size + 1 + 1 + 1)) (fun r h => by subst h; simp only [World.size_alloc]; omega) hG (fun _ => rfl) (fun h k => h.trans k)
    (fun A o h => keepUput A o (by simp only [World.size_alloc]; omega) (by simp only [World.size_alloc]; omega) (by simp only [World.size_alloc]; omega)) (IsI w name) (IsR w name) (isI_stands w name _ (fun r h => by simp only [World.size_alloc] at h; omega)) (isR_stands w name _ (fun r h => by simp only [World.size_alloc] at h; omega)) ⟨fun _ h => (by cases h), f0, f1, hb4⟩
    (fun x => { tmps := #[.slice vp N vc, .string ⟨name.toArray⟩, .string ⟨below.toArray⟩, undef, .pointer (some ⟨w.heap.size, 0, none⟩), undef, .pointer (some ⟨w.heap.size + 1, 0, none⟩), .string ⟨x.toArray⟩, .slice vp N vc, .string ⟨below.toArray⟩, .func (.func 54) #[] #[.pointer (some ⟨w.heap.size + 1 + 1, 0, none⟩), .pointer (some ⟨w.heap.size + 1 + 1 + 1, 0, none⟩)], .string ⟨x.toArray⟩, undef, undef, undef], defers := [] }) ?assign ?body ?done ?stop
  case assign =>
    intro l x W K hK
    gi_wp2
    exact hK
  case body =>
    rintro l pre x W - hsp ⟨hne, c0, c1, hB⟩
    obtain ⟨n0c, -, n0l⟩ := obj_cells c0
    obtain ⟨n1c, n1f, n1l⟩ := obj_cells c1
    replace hG := Lib.hid hG
    clear f0 f1 f2 f3 hb4
    by_cases hx : x = name
    · have hxb : (x == name) = true := by simpa using hx
      replace c0 := Lib.hid c0
      replace c1 := Lib.hid c1
      replace hx := Lib.hid hx
      gi_wp2
      refine ⟨(KeepsOthers.setCell _ _ _).from _, List.mem_append_right _ (by rw [hx.out]; simp), obj_set (i := 0) c1.out _, hB.setCell (p := ⟨w.heap.size + 1, 0, none⟩) (by show w.heap.size ≤ w.heap.size + 1; omega) _⟩
    · have hxb : (x == name) = false := by simpa using hx
      gi_wp2
      refine ⟨KeepsFrom.refl _ _, ⟨rfl, rfl, rfl, Nat.le_refl _, fun _ _ _ => rfl⟩, fun y hy => ?_, c0, c1, hB⟩
      rcases List.mem_append.1 hy with h | h
      · exact hne y h
      · rw [List.mem_singleton.1 h]; exact hx
  case done =>
    rintro xs W hxs ⟨hne, c0, c1, hB⟩ hK
    have hu : isUpE E name below = false := by
      unfold isUpE aboveE
      cases hc : (upF (parE E) E.length below).contains name with
      | false => rfl
      | true => rw [List.contains_iff_mem, hN, ← hxs] at hc; exact absurd rfl (hne name hc)
    obtain ⟨n1c, n1f, n1l⟩ := obj_cells c1
    simp only [World.size_alloc] at hK ⊢
    clear f0 f1 f2 f3 hb4 hG
    gi_wp2
    have hK2 : (W.setCell ⟨w.heap.size + 1, 0, none⟩ (.bool false)).heap[w.heap.size + 1 + 1 + 1 + 1]? = some (.deferred (some [])) := (Below.heap_setCell _ _ _ _ (by show w.heap.size + 1 + 1 + 1 + 1 ≠ w.heap.size + 1; omega)).trans hK
    refine ⟨by simp, .inl ⟨_, _, rfl, run_takeDeferred hK2, ?_⟩⟩
    have c2 : ((W.setCell ⟨w.heap.size + 1, 0, none⟩ (.bool false)).putObj (w.heap.size + 1 + 1 + 1 + 1) (.deferred none)).heap[w.heap.size + 1]? = some (.cells #[.bool false] 4) := (World.putObj_heap_other (by omega)).trans (obj_set (i := 0) c1 _)
    exact ⟨_, results_cell Try.results30 rfl (load_boolC _ _ _ ((obj_cells c2).1 0)), by rw [hu], (hB.setCell (p := ⟨w.heap.size + 1, 0, none⟩) (by show w.heap.size ≤ w.heap.size + 1; omega) _).trans (belowK_b (w := w) (Nat.le_refl _) _ (w.heap.size + 1 + 1 + 1 + 1) _ _ (by omega) hK2 rfl rfl)⟩
  case stop =>
    rintro pre W hpre ⟨hmem, c1, hB⟩ hK
    have hu : isUpE E name below = true := by
      unfold isUpE aboveE
      rw [List.contains_iff_mem, hN]
      exact hpre.subset hmem
    obtain ⟨n1c, n1f, n1l⟩ := obj_cells c1
    simp only [World.size_alloc] at hK ⊢
    clear f0 f1 f2 f3 hb4 hG
    gi_wp2
    refine ⟨by simp, .inl ⟨_, _, rfl, run_takeDeferred hK, ?_⟩⟩
    have c2 : (W.putObj (w.heap.size + 1 + 1 + 1 + 1) (.deferred none)).heap[w.heap.size + 1]? = _ := (World.putObj_heap_other (by omega)).trans c1
    exact ⟨_, results_cell Try.results30 rfl (load_boolC _ _ _ ((obj_cells c2).1 0)), by rw [hu], hB.trans (belowK_b (w := w) (Nat.le_refl _) W (w.heap.size + 1 + 1 + 1 + 1) _ _ (by omega) hK rfl rfl)⟩
end Go.Proofs.Ytgodmppmiamhaaa
