/-
  Bytes are read (xml.Feed). Conditions: the parser lies at B; each byte brings what the text of whole tokens brings (Tr).
-/
import Derived.Test.YtjpdadibeocpfaaDoorPrSt
import Derived.Test.YtjpdadibeocpfaaDoorPrIdle
namespace Go.Proofs.YtjpdadibeocpfaaDoor
set_option linter.unusedVariables false
set_option linter.unusedSimpArgs false
open Go.RowKit Go.MapKept Go.Proofs
/-- bytes that all go through -/
inductive Tr : Ps → List UInt8 → Ps → List Tk → Prop
  | nil (S : Ps) : Tr S [] S []
  | cons {S S1 S2 : Ps} {c : UInt8} {s : List UInt8} {tk out : List Tk} : StepR S c (some (S1, tk)) → Tr S1 s S2 out → Tr S (c :: s) S2 (tk ++ out)
theorem step_len {S S' : Ps} {c : UInt8} {tk : List Tk} (h : StepR S c (some (S', tk))) : S'.w.length ≤ 2048 := by
  cases h with
  | txt _ _ _ _ h => simp; omega
  | opn _ _ => simp
  | aft _ _ _ _ _ _ => simp
  | tag _ _ _ _ _ _ h => simp; omega
  | fin _ _ _ _ _ _ _ _ _ => simp
theorem Tr.app {S : Ps} {s1 s2 : List UInt8} : ∀ {S2 : Ps} {out : List Tk}, Tr S (s1 ++ s2) S2 out → ∃ S1 o1 o2, Tr S s1 S1 o1 ∧ Tr S1 s2 S2 o2 ∧ out = o1 ++ o2 := by
  induction s1 generalizing S with
  | nil => exact fun h => ⟨S, [], _, .nil S, h, rfl⟩
  | cons c s1 ih =>
    intro S2 out h
    rw [List.cons_append] at h
    cases h with
    | cons h1 h2 =>
      obtain ⟨S1, o1, o2, h3, h4, rfl⟩ := ih h2
      exact ⟨S1, _, o2, .cons h1 h3, h4, by rw [List.append_assoc]⟩
/-- what reading may turn: all but the parser and what waits in it stays -/
def FeedK (B : Nat) (w w' : World) : Prop :=
  w'.os = w.os ∧ w'.tape = w.tape ∧ w'.output = w.output ∧ w.heap.size ≤ w'.heap.size ∧ ∀ wv, w.cell? ⟨B, 0, none⟩ = some wv → ∀ k, k < w.heap.size → k ≠ B → some k ≠ wv.ownBlock → w'.heap[k]? = w.heap[k]?
theorem PsAt.weak {K K' : Nat → Prop} {n0 B : Nat} {w : World} {S : Ps} (h : PsAt K n0 B w S) (hk : ∀ r, K' r → K r) : PsAt K' n0 B w S := by
  obtain ⟨h1, wv, ov, an, h2, h3, h4, h5⟩ := h
  exact ⟨h1, wv, ov, an, h2, h3, h4, fun r hr hK => h5 r hr (hk r hK)⟩
/-- a row of another type is another block -/
theorem row_neT {w : World} {b O size n : Nat} {e t : TypeId} {v : Value} {cs : Array Value} {xs : List Value} (h : w.ownsRow b e size v n xs) (hob : w.heap[O]? = some (.cells cs t)) (he : t ≠ e) (r : Nat) (hr : v.ownBlock = some r) : O ≠ r := by
  rcases h.2 with ⟨rfl, -⟩ | ⟨g, cap, cur, rfl, -, hg, -⟩
  · cases hr
  · rintro rfl
    have e1 : g = O := by injection hr
    subst e1
    rw [hob] at hg
    injection hg with hg
    injection hg with _ h _
    exact he h
theorem PsAt.setX {K : Nat → Prop} {n0 B X i : Nat} {w : World} {S : Ps} {cs : Array Value} {t : TypeId} (h : PsAt K n0 B w S) (hob : w.heap[X]? = some (.cells cs t)) (hne : X ≠ B) (h8 : t ≠ 5) (hst : t ≠ 9) (v : Value) : PsAt K n0 B (w.setCell ⟨X, i, none⟩ v) S := by
  obtain ⟨h1, wv, ov, an, h2, h3, h4, h5⟩ := h
  have hg : w.grownBy (w.setCell ⟨X, i, none⟩ v) (some X) := ⟨rfl, rfl, rfl, by rw [World.size_setCell]; exact Nat.le_refl _, fun k _ hk => Below.heap_setCell _ _ _ _ (fun e => hk (by rw [e]))⟩
  exact ⟨h1, wv, ov, an, (Below.heap_setCell _ _ _ _ (fun e => hne e.symm)).trans h2, owns_row_keep h3 hg (fun r hr e => row_neT h3 hob h8 r hr (by injection e)), owns_row_keep h4 hg (fun r hr e => row_neT h4 hob hst r hr (by injection e)), h5⟩
set_option maxRecDepth 100000 in
set_option maxHeartbeats 8000000 in
theorem xfeed_tr (n0 B gb cap : Nat) (s : List UInt8) (S S' : Ps) (out : List Tk) (w : World) (hP : PsAt (fun _ => False) n0 B w S) (h0 : n0 ≤ w.heap.size) (hT : Tr S s S' out) (hw : S.w.length ≤ 2048) (hlen : out.length ≤ 800)
    (hgb : gb ≠ B) (hgl : gb < w.heap.size) (hgw : ∀ wv, w.cell? ⟨B, 0, none⟩ = some wv → some gb ≠ wv.ownBlock) (hb : ∀ j (h : j < s.length), w.cell? ⟨gb, j, none⟩ = some (.int .u8 ((s[j]'h).toNat : Int))) (hm : s.length ≤ 140737488351232) :
    Calls Tryd.prog 7 #[.pointer (some ⟨B, 0, none⟩), .slice (some ⟨gb, 0, none⟩) s.length cap] w fun e w' => ∃ v, e = .returned (.tuple #[v, .int .i64 0]) ∧ TkO w.heap.size w' v out ∧ PsAt (fun _ => False) n0 B w' S' ∧ FeedK B w w' := by
  have hmf : ∀ (fn : Fn) (first cap : Array Value) (w : World), (Instr.makeFunc fn first cap).run Tryd.prog w = .ok (.func fn first cap) w := fun _ _ _ _ => rfl
  obtain ⟨K, hKd⟩ : ∃ K : Nat → Prop, K = fun k => k < w.heap.size + 3 ∧ ∀ wv, w.cell? ⟨B, 0, none⟩ = some wv → some k ≠ wv.ownBlock := ⟨_, rfl⟩
  have hPK : PsAt K n0 B w S := by
    obtain ⟨h1, wv, ov, an, h2, h3, h4, h5⟩ := hP
    refine ⟨h1, wv, ov, an, h2, h3, h4, fun r hr hk => ?_⟩
    rw [hKd] at hk
    exact hk.2 wv (((obj_cells h2).1 0).trans rfl) hr.symm
  obtain ⟨hBn, wv, ov, an, hobj, -, -⟩ := id hPK
  obtain ⟨c0, c1, c2, c3, c4, c5, hfz, hBl⟩ := pr_cells hobj
  replace hP := Lib.hid hP
  replace hPK := Lib.hid hPK
  replace hb := Lib.hid hb
  replace hT := Lib.hid hT
  replace hgw := Lib.hid hgw
  replace hobj := Lib.hid hobj
  replace hKd := Lib.hid hKd
  have hBl1 : B < w.heap.size + 1 := by omega
  have hBl2 : B < w.heap.size + 1 + 1 := by omega
  go_enter_defers Tryd.func7, Tryd.ntmps7
  go_wp2_with fail
  obtain ⟨W0, hW0⟩ : ∃ W0, W0 = (((w.alloc (.cells #[.pointer (some ⟨B, 0, none⟩)] 23)).alloc (.cells #[.slice none 0 0] 25)).alloc (.cells #[.int .i64 0] 26)) := ⟨_, rfl⟩
  rw [← hW0]
  have hs0 : W0.heap.size = w.heap.size + 3 := by rw [hW0]; simp [World.size_alloc]
  have hB0 : Below w.heap.size w W0 := by rw [hW0]; exact belowT (belowT (below1 _ _) (below1 _ _)) (below1 _ _)
  have hx0 : W0.heap[w.heap.size]? = some (.cells #[.pointer (some ⟨B, 0, none⟩)] 23) := by
    rw [hW0]; exact obj_alloc (obj_alloc (heap_alloc _ _).1)
  have hx1 : W0.heap[w.heap.size + 1]? = some (.cells #[.slice none 0 0] 25) := by
    have := heap_alloc (w.alloc (.cells #[.pointer (some ⟨B, 0, none⟩)] 23)) (.cells #[.slice none 0 0] 25)
    rw [World.size_alloc] at this
    rw [hW0]; exact obj_alloc this.1
  have hx2 : W0.heap[w.heap.size + 1 + 1]? = some (.cells #[.int .i64 0] 26) := by
    have := heap_alloc ((w.alloc (.cells #[.pointer (some ⟨B, 0, none⟩)] 23)).alloc (.cells #[.slice none 0 0] 25)) (.cells #[.int .i64 0] 26)
    rw [World.size_alloc, World.size_alloc] at this
    rw [hW0]; exact this.1
  have hKnew : ∀ k, w.heap.size ≤ k → k < w.heap.size + 3 → K k := fun k h1 h2 => by
    rw [hKd.out]
    refine ⟨h2, fun wv' hv e => ?_⟩
    obtain ⟨-, wv2, ov2, an2, ho2, hOw2, -⟩ := hP.out
    obtain rfl : wv' = wv2 := by
      have := hv.symm.trans (((obj_cells ho2).1 0).trans rfl)
      simpa using this
    have := (hOw2.lt k e.symm).2
    omega
  have hKgb : K gb := by rw [hKd.out]; exact ⟨by omega, hgw.out⟩
  have hKlt : ∀ k, K k → k < w.heap.size + 3 := fun k hk => by rw [hKd.out] at hk; exact hk.1
  have hP0 : PsAt K n0 B W0 S := hPK.out.below hB0
  have hO0 : OutAt (w.heap.size + 3) (w.heap.size + 1) W0 [] := ⟨by omega, _, hx1, tkO_nil _ _⟩
  have hbx0 := ((obj_cells hx0).1 0).trans rfl
  have hcb0 : ∀ j (h : j < s.length), W0.cell? ⟨gb, j, none⟩ = some (.int .u8 ((s[j]'h).toNat : Int)) := fun j h => (hB0.cell (p := ⟨gb, j, none⟩) hgl).trans (hb.out j h)
  replace hW0 := Lib.hid hW0
  replace hB0 := Lib.hid hB0
  replace hx0 := Lib.hid hx0
  replace hx1 := Lib.hid hx1
  replace hx2 := Lib.hid hx2
  replace hKnew := Lib.hid hKnew
  replace hKgb := Lib.hid hKgb
  replace hKlt := Lib.hid hKlt
  replace hP0 := Lib.hid hP0
  replace hO0 := Lib.hid hO0
  replace hbx0 := Lib.hid hbx0
  replace hcb0 := Lib.hid hcb0
  replace hs0 := Lib.hid hs0
  clear c0 c1 c2 c3 c4 c5 hfz hBl1 hBl2
  go_loopw [24] (fun s24 wr => ∃ (i : Nat) (S1 : Ps) (o1 o2 : List Tk), i ≤ s.length ∧ s24 = .int .i64 i ∧ Hid (Tr S1 (s.drop i) S' o2) ∧ Hid (out = o1 ++ o2) ∧ S1.w.length ≤ 2048 ∧ Hid (PsAt K n0 B wr S1) ∧ Hid (OutAt (w.heap.size + 3) (w.heap.size + 1) wr o1) ∧ Hid (StepK K B (w.heap.size + 1) W0 wr)) (fun s24 _ => s.length - (intOf s24).toNat)
  case atStart => exact ⟨0, S, [], out, by omega, rfl, Lib.hid (by rw [List.drop_zero]; exact hT.out), Lib.hid rfl, hw, hP0, hO0, Lib.hid (StepK.refl _ _ _ _)⟩
  case round =>
    obtain ⟨i, S1, o1, o2, hi, rfl, hTr, hoe, hw1, hPr, hOr, hSr⟩ := hrel
    have hsr := hSr.out.size
    rw [hs0.out] at hsr
    by_cases hlt : i < s.length
    · have hii : (i : Int) < (s.length : Int) := by omega
      have hcell : wr.cell? ⟨gb, i, none⟩ = some (.int .u8 (s[i].toNat : Int)) := (World.cell?_of_block (a := ⟨gb, i, none⟩) (hSr.out.block gb hKgb.out hgb (by omega) (by rw [hs0.out]; omega))).trans (hcb0.out i hlt)
      have hbox : wr.cell? ⟨w.heap.size, 0, none⟩ = some (.pointer (some ⟨B, 0, none⟩)) := (World.cell?_of_block (a := ⟨w.heap.size, 0, none⟩) (hSr.out.block w.heap.size (hKnew.out _ (Nat.le_refl _) (by omega)) (by omega) (by omega) (by rw [hs0.out]; omega))).trans hbx0.out
      have hzl : w.heap.size < wr.heap.size := by omega
      have hgl2 : gb < wr.heap.size := by omega
      rw [List.drop_eq_getElem_cons hlt] at hTr
      obtain ⟨S2, tk, o3, hst, hTr', rfl⟩ : ∃ S2 tk o3, StepR S1 (s[i]'hlt) (some (S2, tk)) ∧ Tr S2 (s.drop (i + 1)) S' o3 ∧ o2 = tk ++ o3 := by
        have := hTr.out
        generalize s.drop (i + 1) = s' at this
        cases this with
        | cons h1 h2 => exact ⟨_, _, _, h1, h2, rfl⟩
      have hl1 : o1.length ≤ 800 := by have := congrArg List.length hoe.out; rw [List.length_append] at this; omega
      have hw2 := step_len hst
      have hTk := Lib.hid (xtake_any n0 (w.heap.size + 3) B (w.heap.size + 1) (s[i]'hlt) S1 S2 o1 tk wr hPr.out hOr.out (by omega) (by omega) (by omega) hKlt.out hst hw1 hl1)
      generalize (s[i]'hlt) = c at hcell hTk
      clear hst hTr
      replace hTr' := Lib.hid hTr'
      go_wp2_with (go_at_call 19; refine hTk.out.mono ?_; rintro e w2 ⟨rfl, hP2, hO2, hS2⟩; replace hP2 := Lib.hid hP2; replace hO2 := Lib.hid hO2; replace hS2 := Lib.hid hS2)
      go_roundw
      case rel => exact ⟨i + 1, S2, o1 ++ tk, o3, by omega, by go_num, hTr', Lib.hid (by rw [hoe.out, List.append_assoc]), hw2, hP2, hO2, Lib.hid (hSr.out.trans hS2.out)⟩
      case measure => simp [intOf]; omega
    · obtain rfl : i = s.length := by omega
      have hend : S' = S1 ∧ o2 = [] := by
        have := hTr.out
        rw [List.drop_length] at this
        cases this; exact ⟨rfl, rfl⟩
      obtain ⟨rfl, rfl⟩ := hend
      obtain ⟨hOn, v, hov, hTk⟩ := hOr.out
      obtain ⟨xc, xf, xl⟩ := obj_cells hov
      have d0 : wr.cell? ⟨w.heap.size + 1, 0, none⟩ = some v := (xc 0).trans rfl
      have f0 := xf 0
      have hoe2 := (hSr.out.block (w.heap.size + 1 + 1) (hKnew.out _ (by omega) (by omega)) (by omega) (by omega) (by rw [hs0.out]; omega)).trans hx2.out
      obtain ⟨yc, yf, yl⟩ := obj_cells hoe2
      have f1 := yf 0
      have d1 : wr.cell? ⟨w.heap.size + 1 + 1, 0, none⟩ = some (.int .i64 0) := (yc 0).trans rfl
      obtain ⟨a9, k9, c9, rfl⟩ : ∃ a9 k9 c9, v = .slice a9 k9 c9 := by
        obtain ⟨ps5, -, o5, -⟩ := hTk
        obtain ⟨a9, c9, h⟩ := owns_val o5
        exact ⟨a9, _, c9, h⟩
      clear xc xf yc yf
      replace hov := Lib.hid hov
      replace hTk := Lib.hid hTk
      replace hoe2 := Lib.hid hoe2
      replace hoe := Lib.hid (show out = o1 by have := hoe.out; rwa [List.append_nil] at this)
      go_wp2_with fail
      obtain ⟨W9, hW9⟩ : ∃ W9, W9 = (wr.setCell ⟨w.heap.size + 1, 0, none⟩ (.slice a9 k9 c9)).setCell ⟨w.heap.size + 1 + 1, 0, none⟩ (.int .i64 0) := ⟨_, rfl⟩
      have g0 : W9.cell? ⟨w.heap.size + 1, 0, none⟩ = some (.slice a9 k9 c9) := by
        have h := obj_set (i := 0) hov.out (.slice a9 k9 c9)
        have := (Below.heap_setCell (wr.setCell ⟨w.heap.size + 1, 0, none⟩ (.slice a9 k9 c9)) ⟨w.heap.size + 1 + 1, 0, none⟩ (.int .i64 0) (w.heap.size + 1) (by show w.heap.size + 1 ≠ w.heap.size + 1 + 1; omega)).trans h
        rw [hW9]
        exact ((obj_cells this).1 0).trans rfl
      have hoe3 : (wr.setCell ⟨w.heap.size + 1, 0, none⟩ (.slice a9 k9 c9)).heap[w.heap.size + 1 + 1]? = some (.cells #[.int .i64 0] 26) := (Below.heap_setCell wr ⟨w.heap.size + 1, 0, none⟩ (.slice a9 k9 c9) (w.heap.size + 1 + 1) (by show w.heap.size + 1 + 1 ≠ w.heap.size + 1; omega)).trans hoe2.out
      have g1 : W9.cell? ⟨w.heap.size + 1 + 1, 0, none⟩ = some (.int .i64 0) := by
        rw [hW9]
        exact ((obj_cells (obj_set (i := 0) hoe3 (.int .i64 0))).1 0).trans rfl
      refine leaves_cons (f := 17) (args := #[.pointer (some ⟨w.heap.size, 0, none⟩), .pointer (some ⟨w.heap.size + 1 + 1, 0, none⟩)]) (by simp) (by simp [go_sem]) ?_
      refine (feed1_idle _ _ _).mono ?_
      rintro e u' w'' ⟨rfl, rfl, rfl⟩
      rw [← hW9]
      simp [Leaves, settle, results, Tryd.results7, go_sem, g0, g1]
      have hPe := (hPr.out.setO (i := 0) hov.out (by omega) (.slice a9 k9 c9)).setX (i := 0) hoe3 (by omega) (by decide) (by decide) (.int .i64 0)
      rw [← hW9] at hPe
      have hkeep : ∀ k, k ≠ w.heap.size + 1 → k ≠ w.heap.size + 1 + 1 → W9.heap[k]? = wr.heap[k]? := fun k h1 h2 => by
        rw [hW9]
        exact (Below.heap_setCell _ _ _ _ (by show k ≠ w.heap.size + 1 + 1; exact h2)).trans (Below.heap_setCell _ _ _ _ (by show k ≠ w.heap.size + 1; exact h1))
      have hs9 : W9.heap.size = wr.heap.size := by rw [hW9, World.size_setCell, World.size_setCell]
      refine ⟨?_, hPe.weak (fun r h => h.elim), ?_, ?_, ?_, ?_, ?_⟩
      · rw [hoe.out]
        exact (hTk.out.keep (by omega) (fun b h1 h2 => hkeep b (by omega) (by omega))).mono (by omega)
      · rw [hW9]; exact (hSr.out.os.trans hB0.out.os)
      · rw [hW9]; exact (hSr.out.tape.trans hB0.out.tape)
      · rw [hW9]; exact (hSr.out.output.trans hB0.out.output)
      · omega
      · intro wv' hv k hk hkB hne
        rw [hkeep k (by omega) (by omega), hSr.out.block k (by rw [hKd.out]; exact ⟨by omega, fun wv2 hv2 => by
          obtain rfl : wv2 = wv' := by have := hv2.symm.trans hv; simpa using this
          exact hne⟩) hkB (by omega) (by rw [hs0.out]; omega)]
        exact hB0.out.block k hk
end Go.Proofs.YtjpdadibeocpfaaDoor
