/-
  A byte is read (heliographref03.one). Conditions: what the text of whole tokens brings (StepR); the library's tables are as they were laid.
-/
import Derived.Test.YtadahlffdhgapaaDoorPbTag
namespace Go.Proofs.YtadahlffdhgapaaDoor
set_option linter.unusedVariables false
set_option linter.unusedSimpArgs false
open Go.RowKit Go.MapKept
attribute [local go_sem] mk_get ext0 extE
theorem infoU8 : (Tryd.prog.info? 5).map (fun i => (i.zero, i.size, i.bytes)) = some (some (.int .u8 0), 1, 1) := by kernel_rfl
/-- a byte more waits -/
theorem push_facts (n0 B : Nat) (W : World) (l : List UInt8) (wv ov : Value) (q : UInt8) (rt an : Bool) (c : UInt8) (hBn : B < n0) (hobj : W.heap[B]? = some (PrObj wv q ov rt an)) (hOw : W.ownsRow n0 5 1 wv l.length (Lib.byteCells l)) (h0 : n0 ≤ W.heap.size) (hl : l.length ≤ 3000) :
    ∃ a9 c9 wa g5 c5 wb, (Builtin.append_ #[33, 33] 33 #[.slice (some ⟨W.heap.size, 0, none⟩) 0 0, wv]).run Tryd.prog (W.alloc (.cells #[] 5)) = .ok (.slice a9 l.length c9) wa ∧
      (Builtin.append_ #[33, 33] 33 #[.slice a9 l.length c9, .slice (some ⟨wa.heap.size, 0, none⟩) 1 1]).run Tryd.prog (wa.alloc (.cells #[.int .u8 (c.toNat : Int)] 5)) = .ok (.slice (some ⟨g5, 0, none⟩) (l.length + 1) c5) wb ∧
      wb.heap[B]? = some (PrObj wv q ov rt an) ∧ W.grownBy wb none ∧ wb.ownsRow W.heap.size 5 1 (.slice (some ⟨g5, 0, none⟩) (l.length + 1) c5) (l.length + 1) (Lib.byteCells (l ++ [c])) ∧ B < wb.heap.size ∧ (∀ o, wb.frozen? ⟨B, o, none⟩ = false) ∧ wb.cell? ⟨B, 0, none⟩ = some wv ∧ W.heap.size ≤ g5 := by
  obtain ⟨i0, hi, hz0, hz1, hz2⟩ := info_parts infoU8
  have hBl := (Array.getElem?_eq_some_iff.1 hobj).1
  obtain ⟨va, wa, hra, hOa, hBa⟩ := row_copy (P := Tryd.prog) W n0 33 5 i0 _ 1 1 Tryd.underlying33 hi hz0 hz1 hz2 rfl (by decide) _ _ _ hOw (byteCells_one l) (by unfold maxLen; omega) (by omega)
  obtain ⟨a9, c9, rfl⟩ := owns_val hOa
  obtain ⟨vb, wb, hrb, hOb, hgb, -, -⟩ := run_append_own_at (P := Tryd.prog) (wa.alloc (.cells #[.int .u8 (c.toNat : Int)] 5)) W.heap.size 33 33 5 i0 _ 1 1 Tryd.underlying33 hi hz0 hz1 hz2 rfl (by decide) _ _ _ (hOa.alloc _) ⟨wa.heap.size, 0, none⟩ 1 1 [.int .u8 (c.toNat : Int)] rfl (cell_one_new _ _ _) (by simp [Value.oneCell']) (by unfold maxLen; omega) (by omega) (by have := hBa.size; rw [World.size_alloc]; omega)
  obtain ⟨g5, c5, rfl, hg5, hg5l⟩ := owns_head hOb (by omega)
  have hown : ∀ r, (Value.slice a9 l.length c9).ownBlock = some r → W.heap.size ≤ r := fun r hr => (hOa.lt r hr).1
  have hgr : W.grownBy wb none := by
    refine ⟨hgb.os.trans hBa.os, hgb.tape.trans hBa.tape, hgb.output.trans hBa.output, ?_, fun k hk _ => ?_⟩
    · have h1 := hgb.size; have h2 := hBa.size; rw [World.size_alloc] at h1; omega
    · have h2 := hBa.size
      rw [hgb.block k (by rw [World.size_alloc]; omega) (fun e => by have := hown k e.symm; omega), Below.heap_alloc _ _ _ (by omega)]
      exact hBa.block k hk
  have ho := (hgr.block B hBl (by simp)).trans hobj
  obtain ⟨c0, -, -, -, -, -, hf, hB⟩ := pr_cells ho
  refine ⟨a9, c9, wa, g5, c5, wb, hra, hrb, ho, hgr, ?_, hB, hf, c0, hg5⟩
  have := hOb
  rw [Lib.byteCells_append]
  exact this
theorem tkO_byte {w w' : World} {n B : Nat} {v : Value} {l : List Tk} (h : TkO n w v l) (hg : w.grownBy w' (some B)) (hB : B < n) : TkO n w' v l :=
  h.keep hg.size fun b h1 h2 => hg.block b h2 (fun e => by cases e; omega)
/-- what a byte comes to -/
def OneP (n0 B : Nat) (w : World) (R : Option (Ps × List Tk)) (e : Ending) (w' : World) : Prop :=
  match R with
  | some (S', tk) => ∃ tv, e = .returned (.tuple #[tv, .int .i64 0]) ∧ TkO w.heap.size w' tv tk ∧ PsAt n0 B w' S' ∧ w.grownBy w' (some B)
  | none => ∃ tv, e = .returned (.tuple #[tv, .int .i64 5]) ∧ TkO w.heap.size w' tv [] ∧ (∃ S', PsAt n0 B w' S') ∧ w.grownBy w' (some B)
/-- ahead of the byte: what waits is taken if it is a text and a tag begins -/
def OneA (S : Ps) (c : UInt8) (w0 : List UInt8) (tk0 : List Tk) : Prop :=
  (c ≠ 60 ∧ w0 = S.w ∧ tk0 = []) ∨ (c = 60 ∧ S.w = [] ∧ w0 = [] ∧ tk0 = []) ∨ (c = 60 ∧ w0 = [] ∧ ∃ t, S.w = escL t ∧ t ≠ [] ∧ fitsP t = true ∧ S.op ≠ [] ∧ tk0 = [⟨3, [], [], t⟩])
/-- behind it -/
def OneC (S : Ps) (c : UInt8) (w0 : List UInt8) (tk0 : List Tk) (R : Option (Ps × List Tk)) : Prop :=
  (∃ x r, w0 ++ [c] = x :: r ∧ x ≠ 60 ∧ ((w0.length + 1 ≤ 512 ∧ R = some (⟨w0 ++ [c], S.q, S.op, S.rt⟩, tk0)) ∨ (512 < w0.length + 1 ∧ R = none ∧ tk0 = []))) ∨
  (∃ r, w0 ++ [c] = 60 :: r ∧ ((c ≠ 62 ∧ (S.q = 0 ∨ S.q = 39) ∧ w0.length + 1 ≤ 2048 ∧ R = some (⟨w0 ++ [c], qStep S.q c, S.op, S.rt⟩, tk0)) ∨ (2048 < w0.length + 1 ∧ R = none ∧ tk0 = []) ∨
    (c = 62 ∧ tk0 = [] ∧ w0.length + 1 ≤ 2048 ∧ S.q = 0 ∧ ∃ p op' rt', p.isTxt = false ∧ w0 = p.body ∧ p.good ∧ TagR S.op S.rt op' rt' p ∧ R = some (⟨[], 0, op', rt'⟩, p.toks))))
theorem step_parts {S : Ps} {c : UInt8} {R : Option (Ps × List Tk)} (h : StepR S c R) : ∃ w0 tk0, OneA S c w0 tk0 ∧ OneC S c w0 tk0 R := by
  have hd : ∀ {l : List UInt8} {c : UInt8}, c ≠ 60 → l.head? ≠ some 60 → ∃ x r, l ++ [c] = x :: r ∧ x ≠ 60 := fun {l c} h1 h2 => by
    cases l with
    | nil => exact ⟨c, [], rfl, h1⟩
    | cons x r => exact ⟨x, r ++ [c], rfl, fun e => h2 (by rw [e]; rfl)⟩
  cases h with
  | txt c hq hc hh hl =>
    obtain ⟨x, r, h1, h2⟩ := hd hc hh
    exact ⟨S.w, [], .inl ⟨hc, rfl, rfl⟩, .inl ⟨x, r, h1, h2, .inl ⟨hl, rfl⟩⟩⟩
  | txtL c hq hc hh hl =>
    obtain ⟨x, r, h1, h2⟩ := hd hc hh
    exact ⟨S.w, [], .inl ⟨hc, rfl, rfl⟩, .inl ⟨x, r, h1, h2, .inr ⟨hl, rfl, rfl⟩⟩⟩
  | opn hw hq => exact ⟨[], [], .inr (.inl ⟨rfl, hw, rfl, rfl⟩), .inr ⟨[], rfl, .inl ⟨by decide, .inl hq, by decide, by rw [hq]; rfl⟩⟩⟩
  | aft t hw ht hf hq ho => exact ⟨[], _, .inr (.inr ⟨rfl, rfl, t, hw, ht, hf, ho, rfl⟩), .inr ⟨[], rfl, .inl ⟨by decide, .inl hq, by decide, by rw [hq]; rfl⟩⟩⟩
  | tag c b hw h62 h60 hq hl => exact ⟨S.w, [], .inl ⟨h60, rfl, rfl⟩, .inr ⟨b ++ [c], by rw [hw]; rfl, .inl ⟨h62, hq, hl, rfl⟩⟩⟩
  | tagL c b hw h60 hl => exact ⟨S.w, [], .inl ⟨h60, rfl, rfl⟩, .inr ⟨b ++ [c], by rw [hw]; rfl, .inr (.inl ⟨hl, rfl, rfl⟩)⟩⟩
  | fin p op' rt' hT hw hg hq hR hl =>
    obtain ⟨⟨b, hb, -, -⟩, -, -⟩ := body_facts hg hT
    exact ⟨S.w, [], .inl ⟨by decide, rfl, rfl⟩, .inr ⟨b ++ [62], by rw [hw, hb]; rfl, .inr (.inr ⟨rfl, rfl, hl, hq, p, op', rt', hT, hw, hg, hR, rfl⟩)⟩⟩
theorem byte_cell {w : World} {n0 g c N : Nat} {l : List UInt8} (h : w.ownsRow n0 5 1 (.slice (some ⟨g, 0, none⟩) N c) N (Lib.byteCells l)) (x : UInt8) (r : List UInt8) (hl : l = x :: r) : w.cell? ⟨g, 0, none⟩ = some (.int .u8 (x.toNat : Int)) := by
  have := World.ownsRow.cells h (g := g) rfl 0 (.int .u8 (x.toNat : Int)) (by rw [hl]; rfl)
  rwa [Addr.add_lit, Nat.zero_add] at this
/-- the library's tables lie apart from a parser -/
theorem U8T.apart {w w' : World} {B : Nat} (h : U8T w) (hB : 0 < B ∧ 1 < B) (hg : w.grownBy w' (some B)) : U8T w' := by
  obtain ⟨h1, h2⟩ := h
  have lt : ∀ {g : Nat} {c : Nat} {v : Value}, w.cell? ⟨g, c, none⟩ = some v → g < w.heap.size := fun {g c v} h => by
    rcases Nat.lt_or_ge g w.heap.size with h' | h'
    · exact h'
    · simp [World.cell?, Array.getElem?_eq_none h'] at h
  have hc : ∀ g, g < B → g < w.heap.size → ∀ c, w'.cell? ⟨g, c, none⟩ = w.cell? ⟨g, c, none⟩ := fun g h3 h4 c => World.cell?_of_block (a := ⟨g, c, none⟩) (hg.block g h4 (fun e => by cases e; omega))
  exact ⟨fun c hx => (hc _ hB.1 (lt (h1 c hx)) c).trans (h1 c hx), fun i hi => ⟨(hc _ hB.2 (lt (h2 i hi).1) _).trans (h2 i hi).1, (hc _ hB.2 (lt (h2 i hi).2) _).trans (h2 i hi).2⟩⟩
theorem toks_len (p : Pc) : p.toks.length ≤ 2 := by cases p <;> simp [Pc.toks]
theorem owns_lt5 {w : World} {base g N c : Nat} {e : TypeId} {size : Nat} {xs : List Value} (h : w.ownsRow base e size (.slice (some ⟨g, 0, none⟩) N c) N xs) : g < w.heap.size := (h.lt g rfl).2
set_option maxRecDepth 100000 in
set_option maxHeartbeats 8000000 in
theorem refOne_byte (n0 B : Nat) (S : Ps) (c : UInt8) (R : Option (Ps × List Tk)) (w : World) (hP : PsAt n0 B w S) (h0 : n0 ≤ w.heap.size) (hU : U8T w) (hBU : 0 < B ∧ 1 < B) (hS : StepR S c R) (hl : S.w.length ≤ 2048) :
    Calls Tryd.prog 25 #[.pointer (some ⟨B, 0, none⟩), .int .u8 (c.toNat : Int)] w (OneP n0 B w R) := by
  obtain ⟨w0, tk0, hA, hC⟩ := step_parts hS
  clear hS
  have hP0 := Lib.hid hP
  obtain ⟨hBn, wv, ov, an, hobj, hOw, hOo⟩ := hP
  obtain ⟨c0, c1, c2, c3, c4, c5, hfz, hBl⟩ := pr_cells hobj
  obtain ⟨wp, wc, rfl⟩ := owns_val hOw
  have hA' : ∃ isA, (isA = false ∧ w0 = S.w ∧ tk0 = [] ∧ ((((c.toNat : Int) == 60) = false) ∨ (((c.toNat : Int) == 60) = true ∧ (S.w.length : Int) ≤ 0))) ∨ (isA = true ∧ ((c.toNat : Int) == 60) = true ∧ w0 = [] ∧ ∃ t x r, S.w = escL t ∧ t ≠ [] ∧ fitsP t = true ∧ S.op ≠ [] ∧ tk0 = [⟨3, [], [], t⟩] ∧ S.w = x :: r ∧ x ≠ 60) := by
    rcases hA with ⟨h1, h2, h3⟩ | ⟨h1, h2, h3, h4⟩ | ⟨h1, h2, t, h3, h4, h5, h6, h7⟩
    · exact ⟨false, .inl ⟨rfl, h2, h3, .inl (u8ne h1)⟩⟩
    · exact ⟨false, .inl ⟨rfl, h3.trans h2.symm, h4, .inr ⟨by rw [h1]; rfl, by rw [h2]; simp⟩⟩⟩
    · obtain ⟨x, r, hx⟩ : ∃ x r, escL t = x :: r := by
        cases h : escL t with
        | nil => exact absurd h (escL_ne h4)
        | cons x r => exact ⟨x, r, rfl⟩
      exact ⟨true, .inr ⟨rfl, by rw [h1]; rfl, h2, t, x, r, h3, h4, h5, h6, h7, h3.trans hx, (escL_no t x (by rw [hx]; simp)).1⟩⟩
  clear hA
  obtain ⟨isA, hA⟩ := hA'
  replace hU := Lib.hid hU
  go_enter Tryd.func25, Tryd.ntmps25
  go_upto_region 2 with (fail)
  go_cut [32] (fun v32 W => v32 = .bool isA ∧ w = W)
  case first =>
    rcases hA with ⟨rfl, -, -, h | ⟨h1, h2⟩⟩ | ⟨rfl, h1, -, t, x, r, -, -, -, -, -, h2, h3⟩
    · go_wp2_with fail
      go_meet
      exact ⟨rfl, rfl⟩
    · have h3 : ¬ (0 : Int) < (S.w.length : Int) := by omega
      go_wp2_with fail
      go_meet
      exact ⟨rfl, rfl⟩
    · obtain ⟨g, cp, hv, -, hgl⟩ := owns_head hOw (by rw [h2]; simp)
      obtain ⟨e1, -, e3⟩ := Value.slice.inj hv
      subst e1 e3
      have h4 : (0 : Int) < (S.w.length : Int) := by rw [h2]; simp
      have h5 := byte_cell hOw x r h2
      have h6 : ((x.toNat : Int) != 60) = true := by
        have := u8ne h3
        simp only [show (((60 : UInt8).toNat : Nat) : Int) = 60 from rfl] at this
        rw [bne, this]; rfl
      replace h2 := Lib.hid h2
      clear h3
      go_wp2_with fail
      go_meet
      exact ⟨rfl, rfl⟩
  obtain ⟨rfl, rfl⟩ := hcut
  go_upto_if 32 with (fail)
  go_cut [6] (fun v6 W => Hid (TkO w.heap.size W v6 tk0) ∧ Hid (PsAt n0 B W ⟨w0, S.q, S.op, S.rt⟩) ∧ Hid (w.grownBy W (some B)))
  case first =>
    rcases hA with ⟨rfl, rfl, rfl, -⟩ | ⟨rfl, -, rfl, t, x, r, ht1, ht2, ht3, ht4, rfl, -, -⟩
    · go_wp2_with fail
      go_meet
      exact ⟨Lib.hid (tkO_nil _ _), Lib.hid hP0.out, Lib.hid (grown_of (Below.refl _ _))⟩
    · have hconv := own_back (base := n0) (v := .slice wp S.w.length wc) (l := S.w) (w := w) hOw
      rw [ht1] at hconv
      have hP1 : PsAt n0 B (w.setCell ⟨B, 0, none⟩ (.slice none 0 0)) ⟨[], S.q, S.op, S.rt⟩ := ⟨hBn, .slice none 0 0, ov, an, obj_set (i := 0) hobj _, World.ownsRow_nil _ _ _ _, owns_grown hOo (Nat.le_refl _) hBn (grown_set _ (grown_of (Below.refl _ _)))⟩
      have hTx := refText_any n0 B t _ _ hP1 ht3 ht4 (hU.out.apart hBU (grown_set _ (grown_of (Below.refl _ _))))
      have hgY : w.grownBy (w.setCell ⟨B, 0, none⟩ (.slice none 0 0)) (some B) := grown_set _ (grown_of (Below.refl _ _))
      have hoY := obj_set (i := 0) hobj (.slice none 0 0)
      replace hTx := Lib.hid hTx
      go_wp2_with (go_at_call 37; refine hTx.out.mono ?_; rintro e w2 ⟨tv, rfl, hT2, hb2⟩
                   have hg2 := grown_below hgY hb2
                   have ho2 := (hb2.block B (Array.getElem?_eq_some_iff.1 hoY).1).trans hoY
                   have hP2 := hP1.below hb2
                   obtain ⟨d0, d1, d2, d3, d4, d5, dfz, dBl⟩ := pr_cells ho2
                   replace hT2 := Lib.hid hT2
                   replace hP2 := Lib.hid hP2
                   replace hg2 := Lib.hid hg2
                   replace ho2 := Lib.hid ho2)
      go_meet
      have hg3 : w.grownBy (w2.setCell ⟨B, 4, none⟩ (.bool true)) (some B) := grown_set _ hg2.out
      have hg4 : w2.grownBy (w2.setCell ⟨B, 4, none⟩ (.bool true)) (some B) := grown_set _ (grown_of (Below.refl _ _))
      refine ⟨Lib.hid ?_, Lib.hid ⟨hBn, .slice none 0 0, ov, true, obj_set (i := 4) ho2.out _, World.ownsRow_nil _ _ _ _, owns_grown hOo (Nat.le_refl _) hBn hg3⟩, Lib.hid hg3⟩
      have := tkO_byte hT2.out hg4 (by rw [World.size_setCell]; omega)
      rw [World.size_setCell] at this
      exact this
  obtain ⟨hT, hP, hg⟩ := hcut
  obtain ⟨W1, hW1⟩ : ∃ W1, W1 = wc := ⟨_, rfl⟩
  subst hW1
  have hg0 := hg.out.size
  obtain ⟨-, wv1, ov1, an1, hobj1, hOw1, hOo1⟩ := hP.out
  obtain ⟨a9, c9, wa, g5, c5', wb, hr1, hr2, hob, hgb, hOb, hBb, hfb, hcb, hg5⟩ := push_facts n0 B W1 w0 wv1 ov1 S.q S.rt an1 c hBn hobj1 hOw1 (by omega) (by rcases hA with ⟨-, h, -⟩ | ⟨-, -, h, -⟩ <;> rw [h] <;> first | omega | simp)
  obtain ⟨d0, d1, d2, d3, d4, d5, dfz, dBl⟩ := pr_cells hobj1
  obtain ⟨wp1, wc1, rfl⟩ := owns_val hOw1
  replace hr1 := Lib.hid hr1
  replace hr2 := Lib.hid hr2
  have tok := Lib.hid True.intro
  go_upto_region 10 with (fail)
  go_cut [63] (fun _ W => Hid (W.heap[B]? = some (PrObj (.slice (some ⟨g5, 0, none⟩) (w0.length + 1) c5') S.q ov1 S.rt an1)) ∧ Hid (W.ownsRow n0 5 1 (.slice (some ⟨g5, 0, none⟩) (w0.length + 1) c5') (w0.length + 1) (Lib.byteCells (w0 ++ [c]))) ∧ Hid (W1.grownBy W (some B)))
  case first =>
    go_wp2_with (first
      | (have m0 := tok1; at_builtin; refine wpList_append_run _ wb rfl _ _ 33 rfl _ _ _ rfl rfl hr2.out ?_)
      | (have m0 := tok.out; at_builtin; refine wpList_append_run _ wa rfl _ _ 33 rfl _ _ _ rfl rfl hr1.out ?_; have tok1 := True.intro))
    go_meet
    have hgX : W1.grownBy (wb.setCell ⟨B, 0, none⟩ (.slice (some ⟨g5, 0, none⟩) (w0.length + 1) c5')) (some B) := grown_set _ (grown_of ⟨hgb.os, hgb.tape, hgb.output, hgb.size, fun k hk => hgb.block k hk (by simp)⟩)
    refine ⟨Lib.hid (obj_set (i := 0) hob _), Lib.hid ?_, Lib.hid hgX⟩
    exact owns_grown hOb (by omega) hBn (grown_set _ (grown_of (Below.refl _ _)))
  obtain ⟨ho2, hO2, hg2⟩ := hcut
  obtain ⟨W2, hW2⟩ : ∃ W2, W2 = wc := ⟨_, rfl⟩
  subst hW2
  clear hA d0 d1 d2 d3 d4 d5 dfz hr1 hr2 hob hgb hOb hfb hcb c0 c1 c2 c3 c4 c5 hfz
  have hgw := Lib.hid (grown_trans hg.out hg2.out)
  have hT2 := Lib.hid (tkO_byte hT.out hg2.out hBl)
  have hP2 : Hid (PsAt n0 B W2 ⟨w0 ++ [c], S.q, S.op, S.rt⟩) := Lib.hid ⟨hBn, .slice (some ⟨g5, 0, none⟩) (w0.length + 1) c5', ov1, an1, ho2.out, by rw [List.length_append]; exact hO2.out, owns_grown hOo1 (Nat.le_refl _) hBn hg2.out⟩
  obtain ⟨e0, e1, e2, e3, e4, e5, efz, eBl⟩ := pr_cells ho2.out
  have hg5l := (owns_lt5 hO2.out)
  have hgB : g5 ≠ B := by omega
  rcases hC with ⟨x, r, hx, hx60, hC⟩ | ⟨r, hx, hC⟩
  · have hb := byte_cell hO2.out x r hx
    have hx6 : ((x.toNat : Int) != 60) = true := by
      have := u8ne hx60
      simp only [show (((60 : UInt8).toNat : Nat) : Int) = 60 from rfl] at this
      rw [bne, this]; rfl
    replace hx := Lib.hid hx
    replace hx60 := Lib.hid hx60
    rcases hC with ⟨hle, rfl⟩ | ⟨hgt, rfl, rfl⟩
    · have h5 : ¬ (512 : Int) < (w0.length : Int) + 1 := by omega
      clear hle
      go_wp2_with fail
      go_ret2
      exact ⟨_, rfl, hT2.out, hP2.out, hgw.out⟩
    · have h5 : (512 : Int) < (w0.length : Int) + 1 := by omega
      clear hgt
      go_wp2_with fail
      go_ret2
      exact ⟨_, rfl, hT2.out, ⟨_, hP2.out⟩, hgw.out⟩
  · have hb := byte_cell hO2.out 60 r hx
    rcases hC with ⟨h62, hq, hle, rfl⟩ | ⟨hgt, rfl, rfl⟩ | ⟨rfl, rfl, hle, hq, p, op', rt', hpt, rfl, hpg, hpR, rfl⟩
    · have h5 : ¬ (2048 : Int) < (w0.length : Int) + 1 := by omega
      have n62 := u8ne h62
      simp only [show (((62 : UInt8).toNat : Nat) : Int) = 62 from rfl] at n62
      replace hx := Lib.hid hx
      replace h62 := Lib.hid h62
      clear hle
      have hset : ∀ q' : UInt8, PsAt n0 B (W2.setCell ⟨B, 1, none⟩ (.int .u8 (q'.toNat : Int))) ⟨w0 ++ [c], q', S.op, S.rt⟩ := fun q' => by
        have hgq : W2.grownBy (W2.setCell ⟨B, 1, none⟩ (.int .u8 (q'.toNat : Int))) (some B) := grown_set _ (grown_of (Below.refl _ _))
        refine ⟨hBn, .slice (some ⟨g5, 0, none⟩) (w0.length + 1) c5', ov1, an1, obj_set (i := 1) ho2.out _, ?_, owns_grown hOo1 (Nat.le_refl _) hBn (grown_trans hg2.out hgq)⟩
        rw [List.length_append]
        exact owns_grown hO2.out (Nat.le_refl _) hBn hgq
      have hgq : ∀ v : Value, w.grownBy (W2.setCell ⟨B, 1, none⟩ v) (some B) := fun v => grown_set _ hgw.out
      have hTq : ∀ v : Value, TkO w.heap.size (W2.setCell ⟨B, 1, none⟩ v) u6 tk0 := fun v => tkO_byte hT2.out (grown_set _ (grown_of (Below.refl _ _))) hBl
      replace hset := Lib.hid hset
      replace hgq := Lib.hid hgq
      replace hTq := Lib.hid hTq
      have fn : ∀ k : UInt8, c ≠ k → (((c.toNat : Int) == (k.toNat : Int)) = false) := fun k h => u8ne h
      rcases hq with hq | hq
      · rw [hq] at e1
        replace e1 : W2.cell? ⟨B, 1, none⟩ = some (.int .u8 0) := e1
        by_cases h39 : c = 39
        · have g1 : ((c.toNat : Int) == 39) = true := by rw [h39]; rfl
          have hQ : Hid (qStep S.q c = c) := Lib.hid (by rw [hq, h39]; decide)
          replace h39 := Lib.hid h39
          replace hq := Lib.hid hq
          go_wp2_with fail
          go_ret2
          exact ⟨_, rfl, hTq.out _, by rw [hQ.out]; exact hset.out c, hgq.out _⟩
        · by_cases h34 : c = 34
          · have g1 : ((c.toNat : Int) == 39) = false := fn 39 h39
            have g2 : ((c.toNat : Int) == 34) = true := by rw [h34]; rfl
            have hQ : Hid (qStep S.q c = c) := Lib.hid (by rw [hq, h34]; decide)
            replace h39 := Lib.hid h39
            replace h34 := Lib.hid h34
            replace hq := Lib.hid hq
            go_wp2_with fail
            go_ret2
            exact ⟨_, rfl, hTq.out _, by rw [hQ.out]; exact hset.out c, hgq.out _⟩
          · have g1 : ((c.toNat : Int) == 39) = false := fn 39 h39
            have g2 : ((c.toNat : Int) == 34) = false := fn 34 h34
            have hQ : Hid (qStep S.q c = S.q) := Lib.hid (by rw [hq]; unfold qStep; simp [h39, h34])
            replace h39 := Lib.hid h39
            replace h34 := Lib.hid h34
            replace hq := Lib.hid hq
            go_wp2_with fail
            go_ret2
            exact ⟨_, rfl, hT2.out, by rw [hQ.out]; exact hP2.out, hgw.out⟩
      · rw [hq] at e1
        replace e1 : W2.cell? ⟨B, 1, none⟩ = some (.int .u8 39) := e1
        by_cases h39 : c = 39
        · have g1 : ((c.toNat : Int) == 39) = true := by rw [h39]; rfl
          have hQ : Hid (qStep S.q c = 0) := Lib.hid (by rw [hq, h39]; decide)
          replace h39 := Lib.hid h39
          replace hq := Lib.hid hq
          go_wp2_with fail
          go_ret2
          exact ⟨_, rfl, hTq.out _, by rw [hQ.out]; exact hset.out 0, hgq.out _⟩
        · have g1 : ((c.toNat : Int) == 39) = false := fn 39 h39
          have hQ : Hid (qStep S.q c = S.q) := Lib.hid (by rw [hq]; unfold qStep; simp [h39])
          replace h39 := Lib.hid h39
          replace hq := Lib.hid hq
          go_wp2_with fail
          go_ret2
          exact ⟨_, rfl, hT2.out, by rw [hQ.out]; exact hP2.out, hgw.out⟩
    · have h5 : (2048 : Int) < (w0.length : Int) + 1 := by omega
      replace hx := Lib.hid hx
      clear hgt
      go_wp2_with fail
      go_ret2
      exact ⟨_, rfl, hT2.out, ⟨_, hP2.out⟩, hgw.out⟩
    · have h5 : ¬ (2048 : Int) < (p.body.length : Int) + 1 := by omega
      rw [hq] at e1
      replace e1 : W2.cell? ⟨B, 1, none⟩ = some (.int .u8 0) := e1
      have hconv := own_back (w := W2) (base := n0) (v := .slice (some ⟨g5, 0, none⟩) (p.body.length + 1) c5') (l := p.body ++ [62]) (by show W2.ownsRow n0 5 1 _ (p.body ++ [62]).length _; rw [List.length_append]; exact hO2.out)
      rw [← p.text_body hpt] at hconv
      have hoY := obj_set (i := 0) ho2.out (.slice none 0 0)
      have hgY : W2.grownBy (W2.setCell ⟨B, 0, none⟩ (.slice none 0 0)) (some B) := grown_set _ (grown_of (Below.refl _ _))
      have hPY : PsAt n0 B (W2.setCell ⟨B, 0, none⟩ (.slice none 0 0)) ⟨[], S.q, S.op, S.rt⟩ := ⟨hBn, .slice none 0 0, ov1, an1, hoY, World.ownsRow_nil _ _ _ _, owns_grown hOo1 (Nat.le_refl _) hBn (grown_trans hg2.out hgY)⟩
      have hTag := refTag_any n0 B p op' rt' _ _ hPY (by rw [World.size_setCell]; have := hgw.out.size; omega) hpg hpt hpR (hU.out.apart hBU (grown_trans hgw.out hgY))
      replace hTag := Lib.hid hTag
      replace hx := Lib.hid hx
      replace hpt := Lib.hid hpt
      have hq' := Lib.hid hq
      clear hle hq
      go_wp2_with (first
        | (go_at_call 38; refine hTag.out.mono ?_; rintro e w3 ⟨tv, rfl, hT3, hP3, hg3⟩
           have hgw3 := grown_trans hgw.out (grown_trans hgY hg3)
           have hT23 := tkO_byte (tkO_byte hT2.out hgY hBl) hg3 hBl
           obtain ⟨-, wv3, ov3, an3, ho3, hOw3, hOo3⟩ := hP3
           obtain ⟨m0, m1, m2, m3, m4, m5, mfz, mBl⟩ := pr_cells ho3
           have hg4 : w3.grownBy (w3.setCell ⟨B, 4, none⟩ (.bool true)) (some B) := grown_set _ (grown_of (Below.refl _ _))
           have hP4 : PsAt n0 B (w3.setCell ⟨B, 4, none⟩ (.bool true)) ⟨[], S.q, op', rt'⟩ := ⟨hBn, wv3, ov3, true, obj_set (i := 4) ho3 _, owns_grown hOw3 (Nat.le_refl _) hBn hg4, owns_grown hOo3 (Nat.le_refl _) hBn hg4⟩
           obtain ⟨v5, w5, hr5, hT5, hgg5, hor5⟩ := tk_append (w3.setCell ⟨B, 4, none⟩ (.bool true)) w.heap.size (W2.setCell ⟨B, 0, none⟩ (.slice none 0 0)).heap.size u6 tv [] p.toks (tkO_byte hT23 hg4 hBl) (tkO_byte hT3 hg4 (by rw [World.size_setCell]; omega)) (by rw [World.size_setCell]; exact hgw.out.size) (fun r hr => by
             obtain ⟨ps, -, ow, -⟩ := hT2.out
             have := (ow.lt r hr).2
             rw [World.size_setCell]; exact this) (by have := toks_len p; simp; omega) (by rw [World.size_setCell]; exact hgw3.size)
           rw [List.nil_append] at hT5
           have hP5 := hP4.row (tkO_byte hT23 hg4 hBl) hgg5
           have hg5w := grown_row (grown_trans hgw3 hg4) hgg5 (fun r hr => by
             obtain ⟨ps, -, ow, -⟩ := hT2.out
             exact (ow.lt r hr).1)
           replace hr5 := Lib.hid hr5
           replace hT5 := Lib.hid hT5
           replace hP5 := Lib.hid hP5
           replace hg5w := Lib.hid hg5w)
        | (at_builtin; refine wpList_append_run _ w5 rfl _ _ 22 rfl _ _ _ rfl rfl hr5.out ?_))
      go_ret2
      refine ⟨_, rfl, hT5.out, ?_, hg5w.out⟩
      have := hP5.out
      rwa [hq'.out] at this
end Go.Proofs.YtadahlffdhgapaaDoor
