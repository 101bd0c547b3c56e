/-
  A tag is read (xml.tag), whichever it is. Conditions: the parser lies at B, the tokens' variable at O; a right name, right attributes; it can come here.
-/
import Derived.Test.YtjpdadibeocpfaaDoorPrBegin
namespace Go.Proofs.YtjpdadibeocpfaaDoor
set_option linter.unusedVariables false
set_option linter.unusedSimpArgs false
open Go.RowKit Go.MapKept Go.Proofs
variable {K : Nat → Prop}
theorem xbegin_beg (n0 n1 B O : Nat) (n : List UInt8) (al : Ats) (S : Ps) (l : List Tk) (w : World) (hP : PsAt K n0 B w S) (hO : OutAt n1 O w l) (hne : O ≠ B) (h0 : n1 ≤ w.heap.size) (h01 : n0 ≤ n1) (hn : nameP n = true) (ha : attrsP [] al = true) (h8 : S.op.length < 8) (hrt : S.op ≠ [] ∨ S.rt = false) (hl : l.length ≤ 900) :
    Calls Tryd.prog 54 #[.pointer (some ⟨B, 0, none⟩), .string ⟨(n ++ atsL al).toArray⟩, .func (.func 18) #[] #[.pointer (some ⟨O, 0, none⟩)]] w fun e w' => e = .returned (.tuple #[]) ∧ PsAt K n0 B w' ⟨S.w, S.q, S.op ++ [n], true⟩ ∧ OutAt n1 O w' (l ++ (Pc.beg n al).toks) ∧ Step2 n1 B O w w' := by
  have hnl := nameP_len hn
  have ha8 := xattrs_len ha
  have hal := atsL_len (attrs_each [] al ha)
  have hlen : (n ++ atsL al).length ≤ 140737488351232 := by rw [List.length_append]; omega
  exact xbegin_any false (n ++ atsL al) n0 n1 B O n al S l w hP hO hne h0 h01 hn ha h8 hrt hl (fun W => cutsuf_no n al W hn hlen)
theorem xbegin_emp (n0 n1 B O : Nat) (n : List UInt8) (al : Ats) (S : Ps) (l : List Tk) (w : World) (hP : PsAt K n0 B w S) (hO : OutAt n1 O w l) (hne : O ≠ B) (h0 : n1 ≤ w.heap.size) (h01 : n0 ≤ n1) (hn : nameP n = true) (ha : attrsP [] al = true) (h8 : S.op.length < 8) (hrt : S.op ≠ [] ∨ S.rt = false) (hl : l.length ≤ 900) :
    Calls Tryd.prog 54 #[.pointer (some ⟨B, 0, none⟩), .string ⟨(n ++ atsL al ++ [47]).toArray⟩, .func (.func 18) #[] #[.pointer (some ⟨O, 0, none⟩)]] w fun e w' => e = .returned (.tuple #[]) ∧ PsAt K n0 B w' ⟨S.w, S.q, S.op, true⟩ ∧ OutAt n1 O w' (l ++ (Pc.emp n al).toks) ∧ Step2 n1 B O w w' := by
  have hnl := nameP_len hn
  have ha8 := xattrs_len ha
  have hal := atsL_len (attrs_each [] al ha)
  have hlen : (n ++ atsL al ++ [47]).length ≤ 140737488351232 := by simp only [List.length_append, List.length_cons, List.length_nil]; omega
  have := xbegin_any true (n ++ atsL al ++ [47]) n0 n1 B O n al S l w hP hO hne h0 h01 hn ha h8 hrt hl (fun W => cutsuf_yes (n ++ atsL al) _ W rfl hlen)
  simpa [Pc.toks] using this
set_option maxRecDepth 100000 in
set_option maxHeartbeats 8000000 in
theorem xtag_start (c : UInt8) (r : List UInt8) (w : World) (pv tv : Value) (hc : nameC c = true) (hl : r.length ≤ 100000) (hch : charsP (60 :: (c :: r ++ [62])) = true) (R : World → Prop)
    (hC : ∀ w1, Below w.heap.size w w1 → Calls Tryd.prog 54 #[pv, .string ⟨(c :: r).toArray⟩, tv] w1 fun e w' => e = .returned (.tuple #[]) ∧ R w') :
    Calls Tryd.prog 38 #[pv, .string ⟨(60 :: (c :: r ++ [62])).toArray⟩, tv] w fun e w' => e = .returned (.tuple #[]) ∧ R w' := by
  have hCh : Hid (Calls Tryd.prog 31 #[.string ⟨(60 :: (c :: r ++ [62])).toArray⟩] w fun e w' => e = .returned (.bool true) ∧ Below w.heap.size w w') := Lib.hid (by
    have := textChars_any (60 :: (c :: r ++ [62])) w (by simp; omega)
    rwa [hch] at this)
  obtain ⟨-, -, -, -, -, -, n47, n33, n63, -⟩ := nameC_ne hc
  have cA := Lib.hid (fun W => cutp_no c 63 r [120, 109, 108] W n63)
  have cB := Lib.hid (fun W => hasp_no c 33 r W n33)
  have cC := Lib.hid (fun W => hasp_no c 63 r W n63)
  have cD := Lib.hid (fun W => cutp_no c 47 r [] W n47)
  have x1 : (ByteArray.mk (60 :: (c :: r ++ [62])).toArray).extract 1 ((60 :: (c :: r ++ [62])).length - 1) = ⟨(c :: r).toArray⟩ := by
    rw [ByteArray.extract_mk]; simp
  have hT2 : 3 ≤ (60 :: (c :: r ++ [62])).length ∧ (60 :: (c :: r ++ [62])).length ≤ 200000 := by simp; omega
  replace hch := Lib.hid hch
  replace hC := Lib.hid hC
  clear hc n47 n33 n63
  generalize 60 :: (c :: r ++ [62]) = T at hCh x1 hT2 ⊢
  generalize c :: r = I at cA cB cC cD x1 hC
  obtain ⟨hT3, hT4⟩ := hT2
  have q2 : ((T.length : Int) - 1).toNat = T.length - 1 := by omega
  have q3 : (1 : Int) ≤ (T.length : Int) - 1 := by omega
  have q4 : (T.length : Int) - 1 ≤ (T.length : Int) := by omega
  have q5 : (0 : Int) ≤ (T.length : Int) - 1 := by omega
  go_enter Tryd.func38, Tryd.ntmps38
  go_wp2_with (first
    | (go_at_call 31; refine hCh.out.mono ?_; rintro e w1 ⟨rfl, hb1⟩; replace hb1 := Lib.hid hb1)
    | (go_at_call 37; refine (must_ok 6 _).mono ?_; rintro e w3 ⟨rfl, rfl⟩; have mM := Lib.hid True.intro)
    | (go_at_call 37; refine (must_ok 7 _).mono ?_; rintro e w3 ⟨rfl, rfl⟩)
    | (have mA := mB; clear mA; go_at_call 50; refine (cD.out _).mono ?_; rintro e w4 ⟨rfl, rfl⟩)
    | (go_at_call 50; refine (cA.out _).mono ?_; rintro e w4 ⟨rfl, rfl⟩)
    | (have mA := mC; clear mA; go_at_call 46; refine (cC.out _).mono ?_; rintro e w4 ⟨rfl, rfl⟩; have mB := Lib.hid True.intro)
    | (go_at_call 46; refine (cB.out _).mono ?_; rintro e w4 ⟨rfl, rfl⟩; have mC := Lib.hid True.intro)
    | (go_at_call 54; refine (hC.out _ hb1.out).mono ?_; rintro e w5 ⟨rfl, hR⟩))
  go_end0
  exact ⟨rfl, hR⟩
theorem toks_len2 (p : Pc) : p.toks.length ≤ 2 := by cases p <;> simp [Pc.toks]
/-- a tag -/
theorem xtag_any (n0 n1 B O : Nat) (p : Pc) (op' : List (List UInt8)) (rt' : Bool) (S : Ps) (l : List Tk) (w : World) (hP : PsAt K n0 B w S) (hO : OutAt n1 O w l) (hne : O ≠ B) (h0 : n1 ≤ w.heap.size) (h01 : n0 ≤ n1) (hg : p.good) (ht : p.isTxt = false) (hR : TagR S.op S.rt op' rt' p) (hl : l.length ≤ 900) :
    Calls Tryd.prog 38 #[.pointer (some ⟨B, 0, none⟩), .string ⟨p.text.toArray⟩, .func (.func 18) #[] #[.pointer (some ⟨O, 0, none⟩)]] w fun e w' => e = .returned (.tuple #[]) ∧ PsAt K n0 B w' ⟨S.w, S.q, op', rt'⟩ ∧ OutAt n1 O w' (l ++ p.toks) ∧ Step2 n1 B O w w' := by
  have hch := (body_facts hg ht).2.2
  have nl : ∀ {n : List UInt8}, nameP n = true → ∃ c r, n = c :: r ∧ nameC c = true := fun {n} h => by
    cases n with
    | nil => exact absurd rfl (name_bytes h).1
    | cons c r => exact ⟨c, r, rfl, name_all h c (by simp)⟩
  cases p with
  | txt t => cases ht
  | beg n al =>
    obtain ⟨r1, r2, rfl, rfl⟩ := hR
    obtain ⟨c, r, rfl, hc⟩ := nl hg.1
    have hnl := nameP_len hg.1
    have ha8 := xattrs_len hg.2
    have hal := atsL_len (attrs_each [] al hg.2)
    have e : (Pc.beg (c :: r) al).text = 60 :: (c :: (r ++ atsL al) ++ [62]) := by simp [Pc.text]
    rw [e] at hch ⊢
    refine xtag_start c (r ++ atsL al) w _ _ hc (by rw [List.length_append]; simp at hnl; omega) hch _ fun w1 hb => ?_
    exact (xbegin_beg n0 n1 B O (c :: r) al S l w1 (hP.below hb) (hO.below hb) hne (Nat.le_trans h0 hb.size) h01 hg.1 hg.2 r1 r2 hl).mono fun e w' ⟨he, h1, h2, h3⟩ => ⟨he, h1, h2, (Step2.below hb).trans h3⟩
  | emp n al =>
    obtain ⟨r1, r2, rfl, rfl⟩ := hR
    obtain ⟨c, r, rfl, hc⟩ := nl hg.1
    have hnl := nameP_len hg.1
    have ha8 := xattrs_len hg.2
    have hal := atsL_len (attrs_each [] al hg.2)
    have e : (Pc.emp (c :: r) al).text = 60 :: (c :: (r ++ atsL al ++ [47]) ++ [62]) := by simp [Pc.text]
    rw [e] at hch ⊢
    refine xtag_start c (r ++ atsL al ++ [47]) w _ _ hc (by simp only [List.length_append, List.length_cons, List.length_nil] at hnl ⊢; omega) hch _ fun w1 hb => ?_
    exact (xbegin_emp n0 n1 B O (c :: r) al S l w1 (hP.below hb) (hO.below hb) hne (Nat.le_trans h0 hb.size) h01 hg.1 hg.2 r1 r2 hl).mono fun e w' ⟨he, h1, h2, h3⟩ => ⟨he, h1, h2, (Step2.below hb).trans h3⟩
  | fin n =>
    obtain ⟨r1, r2, rfl⟩ := hR
    exact xtag_fin n0 n1 B O n op' S l w hP hO hne h0 h01 hg r1 r2 hl
end Go.Proofs.YtjpdadibeocpfaaDoor
/-
  What a byte brings, part by part. Plain facts, and what rows of unlike kinds keep. No condition.
-/
namespace Go.Proofs.YtjpdadibeocpfaaDoor
set_option linter.unusedVariables false
set_option linter.unusedSimpArgs false
open Go.RowKit Go.MapKept Go.Proofs
variable {K : Nat → Prop}
theorem u8ne {c k : UInt8} (h : c ≠ k) : ((c.toNat : Int) == (k.toNat : Int)) = false := by
  rw [beq_eq_false_iff_ne]; intro e; exact h (UInt8.toNat_inj.1 (by exact_mod_cast e))
/-- ahead of the byte: what waits is taken if it is a text and a tag begins -/
def OneA (S : Ps) (c : UInt8) (w0 : List UInt8) (tk0 : List Tk) : Prop :=
  (c ≠ 60 ∧ w0 = S.w ∧ tk0 = []) ∨ (c = 60 ∧ S.w = [] ∧ w0 = [] ∧ tk0 = []) ∨ (c = 60 ∧ w0 = [] ∧ ∃ t, S.w = escL t ∧ t ≠ [] ∧ fitsP t = true ∧ S.op ≠ [] ∧ tk0 = [⟨3, [], [], t⟩])
/-- behind it -/
def OneC (S : Ps) (c : UInt8) (w0 : List UInt8) (tk0 : List Tk) (R : Option (Ps × List Tk)) : Prop :=
  (∃ x r, w0 ++ [c] = x :: r ∧ x ≠ 60 ∧ ((w0.length + 1 ≤ 512 ∧ R = some (⟨w0 ++ [c], S.q, S.op, S.rt⟩, tk0)) ∨ (512 < w0.length + 1 ∧ R = none ∧ tk0 = []))) ∨
  (∃ r, w0 ++ [c] = 60 :: r ∧ ((c ≠ 62 ∧ (S.q = 0 ∨ S.q = 39) ∧ w0.length + 1 ≤ 2048 ∧ R = some (⟨w0 ++ [c], qStep S.q c, S.op, S.rt⟩, tk0)) ∨ (2048 < w0.length + 1 ∧ R = none ∧ tk0 = []) ∨
    (c = 62 ∧ tk0 = [] ∧ w0.length + 1 ≤ 2048 ∧ S.q = 0 ∧ ∃ p op' rt', p.isTxt = false ∧ w0 = p.body ∧ p.good ∧ TagR S.op S.rt op' rt' p ∧ R = some (⟨[], 0, op', rt'⟩, p.toks))))
theorem step_parts {S : Ps} {c : UInt8} {R : Option (Ps × List Tk)} (h : StepR S c R) : ∃ w0 tk0, OneA S c w0 tk0 ∧ OneC S c w0 tk0 R := by
  have hd : ∀ {l : List UInt8} {c : UInt8}, c ≠ 60 → l.head? ≠ some 60 → ∃ x r, l ++ [c] = x :: r ∧ x ≠ 60 := fun {l c} h1 h2 => by
    cases l with
    | nil => exact ⟨c, [], rfl, h1⟩
    | cons x r => exact ⟨x, r ++ [c], rfl, fun e => h2 (by rw [e]; rfl)⟩
  cases h with
  | txt c hq hc hh hl =>
    obtain ⟨x, r, h1, h2⟩ := hd hc hh
    exact ⟨S.w, [], .inl ⟨hc, rfl, rfl⟩, .inl ⟨x, r, h1, h2, .inl ⟨hl, rfl⟩⟩⟩
  | txtL c hq hc hh hl =>
    obtain ⟨x, r, h1, h2⟩ := hd hc hh
    exact ⟨S.w, [], .inl ⟨hc, rfl, rfl⟩, .inl ⟨x, r, h1, h2, .inr ⟨hl, rfl, rfl⟩⟩⟩
  | opn hw hq => exact ⟨[], [], .inr (.inl ⟨rfl, hw, rfl, rfl⟩), .inr ⟨[], rfl, .inl ⟨by decide, .inl hq, by decide, by rw [hq]; rfl⟩⟩⟩
  | aft t hw ht hf hq ho => exact ⟨[], _, .inr (.inr ⟨rfl, rfl, t, hw, ht, hf, ho, rfl⟩), .inr ⟨[], rfl, .inl ⟨by decide, .inl hq, by decide, by rw [hq]; rfl⟩⟩⟩
  | tag c b hw h62 h60 hq hl => exact ⟨S.w, [], .inl ⟨h60, rfl, rfl⟩, .inr ⟨b ++ [c], by rw [hw]; rfl, .inl ⟨h62, hq, hl, rfl⟩⟩⟩
  | tagL c b hw h60 hl => exact ⟨S.w, [], .inl ⟨h60, rfl, rfl⟩, .inr ⟨b ++ [c], by rw [hw]; rfl, .inr (.inl ⟨hl, rfl, rfl⟩)⟩⟩
  | fin p op' rt' hT hw hg hq hR hl =>
    obtain ⟨⟨b, hb, -, -⟩, -, -⟩ := body_facts hg hT
    exact ⟨S.w, [], .inl ⟨by decide, rfl, rfl⟩, .inr ⟨b ++ [62], by rw [hw, hb]; rfl, .inr (.inr ⟨rfl, rfl, hl, hq, p, op', rt', hT, hw, hg, hR, rfl⟩)⟩⟩
theorem byte_cell {w : World} {n0 g c N : Nat} {l : List UInt8} (h : w.ownsRow n0 5 1 (.slice (some ⟨g, 0, none⟩) N c) N (Lib.byteCells l)) (x : UInt8) (r : List UInt8) (hl : l = x :: r) : w.cell? ⟨g, 0, none⟩ = some (.int .u8 (x.toNat : Int)) := by
  have := World.ownsRow.cells h (g := g) rfl 0 (.int .u8 (x.toNat : Int)) (by rw [hl]; rfl)
  rwa [Addr.add_lit, Nat.zero_add] at this
/-- what a byte may turn: all but the parser, the tokens' variable and what is not kept stays -/
structure StepK (K : Nat → Prop) (B O : Nat) (w w' : World) : Prop where
  os : w'.os = w.os
  tape : w'.tape = w.tape
  output : w'.output = w.output
  size : w.heap.size ≤ w'.heap.size
  block : ∀ k, K k → k ≠ B → k ≠ O → k < w.heap.size → w'.heap[k]? = w.heap[k]?
theorem StepK.refl (K : Nat → Prop) (B O : Nat) (w : World) : StepK K B O w w := ⟨rfl, rfl, rfl, Nat.le_refl _, fun _ _ _ _ _ => rfl⟩
theorem StepK.trans {B O : Nat} {w w1 w2 : World} (h : StepK K B O w w1) (k : StepK K B O w1 w2) : StepK K B O w w2 :=
  ⟨k.os.trans h.os, k.tape.trans h.tape, k.output.trans h.output, Nat.le_trans h.size k.size, fun j a b c d => (k.block j a b c (Nat.lt_of_lt_of_le d h.size)).trans (h.block j a b c d)⟩
theorem Step2.k {n1 B O : Nat} {w w' : World} (h : Step2 n1 B O w w') (hK : ∀ k, K k → k < n1) : StepK K B O w w' :=
  ⟨h.os, h.tape, h.output, h.size, fun k a b c d => h.block k (hK k a) b c d⟩
theorem grown_k {B O : Nat} {w w' : World} {row : Option Nat} (h : w.grownBy w' row) (hr : ∀ r, row = some r → ¬ K r) : StepK K B O w w' :=
  ⟨h.os, h.tape, h.output, h.size, fun k a _ _ d => h.block k d (fun e => hr k e.symm a)⟩
/-- tokens stay where a row of bytes grows -/
theorem TkO.wait {n n0 k : Nat} {w w' : World} {v wv : Value} {l : List Tk} {xs : List Value} (h : TkO n w v l) (ho : w.ownsRow n0 5 1 wv k xs) (hg : w.grownBy w' wv.ownBlock) : TkO n w' v l := by
  obtain ⟨ps, h0, h1, h2⟩ := h
  refine ⟨ps, h0, owns_row_keep h1 hg (fun r hr => fun e => owns_apart h1 ho (by decide) r hr e), fun p hp => ⟨?_, fun r hr => ?_⟩⟩
  · obtain ⟨p1, c1, e1, e2, e3, e4⟩ := (h2 p hp).1
    refine ⟨p1, c1, e1, e2, e3, fun h0 => ?_⟩
    obtain ⟨b, o, f1, f2, f3, f4⟩ := e4 h0
    have hne : some b ≠ wv.ownBlock := (h2 p hp).2.ne ho (by decide) b (by rw [e1, f1]; rfl)
    have hbb := hg.block b f2 hne
    exact ⟨b, o, f1, Nat.lt_of_lt_of_le f2 hg.size, f3, fun i hi => ⟨(World.cell?_of_block (a := ⟨b, _, none⟩) hbb).trans (f4 i hi).1, (World.cell?_of_block (a := ⟨b, _, none⟩) hbb).trans (f4 i hi).2⟩⟩
  · obtain ⟨q1, cur, hc⟩ := (h2 p hp).2 r hr
    exact ⟨q1, cur, (hg.block r ((h2 p hp).2.lt r hr) ((h2 p hp).2.ne ho (by decide) r hr)).trans hc⟩
theorem OutAt.wait {n1 n0 O k : Nat} {w w' : World} {wv : Value} {l : List Tk} {xs : List Value} (h : OutAt n1 O w l) (ho : w.ownsRow n0 5 1 wv k xs) (hg : w.grownBy w' wv.ownBlock) : OutAt n1 O w' l := by
  obtain ⟨h1, v, h2, h3⟩ := h
  exact ⟨h1, v, (hg.block O (Array.getElem?_eq_some_iff.1 h2).1 (fun e => row_ne ho h2 (by decide) O e.symm rfl)).trans h2, h3.wait ho hg⟩
theorem infoU8 : (Tryd.prog.info? 5).map (fun i => (i.zero, i.size, i.bytes)) = some (some (.int .u8 0), 1, 1) := by kernel_rfl
/-- a byte more waits -/
theorem push_facts (n0 n1 B O : Nat) (W : World) (S : Ps) (c : UInt8) (l : List Tk) (hP : PsAt K n0 B W S) (hO : OutAt n1 O W l) (hne : O ≠ B) (h0 : n1 ≤ W.heap.size) (h01 : n0 ≤ n1) (hK : ∀ k, K k → k < n1) (hl : S.w.length ≤ 3000) :
    ∃ wv ov an g5 c5 wb, W.heap[B]? = some (PrObj wv S.q ov S.rt an) ∧ (∃ a0 c0, wv = .slice a0 S.w.length c0) ∧
      (Builtin.append_ #[22, 22] 22 #[wv, .slice (some ⟨W.heap.size, 0, none⟩) 1 1]).run Tryd.prog (W.alloc (.cells #[.int .u8 (c.toNat : Int)] 5)) = .ok (.slice (some ⟨g5, 0, none⟩) (S.w.length + 1) c5) wb ∧
      wb.heap[B]? = some (PrObj wv S.q ov S.rt an) ∧ B < wb.heap.size ∧ (∀ o, wb.frozen? ⟨B, o, none⟩ = false) ∧ wb.cell? ⟨B, 0, none⟩ = some wv ∧
      (let W2 := wb.setCell ⟨B, 0, none⟩ (.slice (some ⟨g5, 0, none⟩) (S.w.length + 1) c5)
       W2.heap[B]? = some (PrObj (.slice (some ⟨g5, 0, none⟩) (S.w.length + 1) c5) S.q ov S.rt an) ∧ W2.ownsRow n0 5 1 (.slice (some ⟨g5, 0, none⟩) (S.w.length + 1) c5) (S.w.length + 1) (Lib.byteCells (S.w ++ [c])) ∧
       PsAt K n0 B W2 ⟨S.w ++ [c], S.q, S.op, S.rt⟩ ∧ OutAt n1 O W2 l ∧ StepK K B O W W2) := by
  obtain ⟨i0, hi, hz0, hz1, hz2⟩ := info_parts infoU8
  obtain ⟨hBn, wv, ov, an, hobj, hOw, hOo, hKw⟩ := hP
  have hBl := (Array.getElem?_eq_some_iff.1 hobj).1
  obtain ⟨vb, wb, hrb, hOb, hgb, -, hor⟩ := run_append_own_at (P := Tryd.prog) (W.alloc (.cells #[.int .u8 (c.toNat : Int)] 5)) n0 22 22 5 i0 _ 1 1 Tryd.underlying22 hi hz0 hz1 hz2 rfl (by decide) _ _ _ (hOw.alloc _) ⟨W.heap.size, 0, none⟩ 1 1 [.int .u8 (c.toNat : Int)] rfl (cell_one_new _ _ _) (by simp [Value.oneCell']) (by unfold maxLen; omega) (by omega) (by rw [World.size_alloc]; omega)
  obtain ⟨g5, c5, rfl, hg5, hg5l⟩ := owns_head hOb (by omega)
  have hOwA := hOw.alloc (.cells #[.int .u8 (c.toNat : Int)] 5)
  have hKb : ∀ r, wv.ownBlock = some r → n0 ≤ r := fun r hr => (hOw.lt r hr).1
  have ho : wb.heap[B]? = _ := (hgb.block B (by rw [World.size_alloc]; omega) (fun e => by have := hKb B e.symm; omega)).trans (obj_alloc hobj)
  obtain ⟨c0, -, -, -, -, -, hf, hB⟩ := pr_cells ho
  have hK5 : ∀ r, (Value.slice (some ⟨g5, 0, none⟩) (S.w.length + 1) c5).ownBlock = some r → ¬ K r := fun r hr hk => by
    rcases hor with h | h
    · exact hKw r (h.symm.trans hr) hk
    · rw [h, World.size_alloc] at hr
      have e : W.heap.size + 1 = r := by injection hr
      have := hK r hk; omega
  have hb5 : wb.ownsRow n0 5 1 (.slice (some ⟨g5, 0, none⟩) (S.w.length + 1) c5) (S.w.length + 1) (Lib.byteCells (S.w ++ [c])) := by
    rw [Lib.byteCells_append]; exact hOb
  have hGs : wb.grownBy (wb.setCell ⟨B, 0, none⟩ (.slice (some ⟨g5, 0, none⟩) (S.w.length + 1) c5)) (some B) := grown_set _ (grown_of (Below.refl _ _))
  have hOo5 : wb.ownsRow n0 9 1 ov S.op.length (nameCells S.op) := owns_row_keep (hOo.alloc (.cells #[.int .u8 (c.toNat : Int)] 5)) hgb (fun r hr e => owns_apart (hOo.alloc (.cells #[.int .u8 (c.toNat : Int)] 5)) hOwA (by decide) r hr e)
  have hO5 : OutAt n1 O wb l := (hO.below (below1 W _)).wait hOwA hgb
  have hstep : StepK K B O W wb := (Step2.k (n1 := n1) (Step2.below (below1 W (.cells #[.int .u8 (c.toNat : Int)] 5))) hK).trans (grown_k hgb hKw)
  refine ⟨wv, ov, an, g5, c5, wb, hobj, owns_val hOw, hrb, ho, hB, hf, c0, obj_set (i := 0) ho _, owns_grown hb5 (Nat.le_refl _) hBn hGs, ⟨hBn, _, ov, an, obj_set (i := 0) ho _, ?_, owns_grown hOo5 (Nat.le_refl _) hBn hGs, hK5⟩, ?_, ?_⟩
  · have := owns_grown hb5 (Nat.le_refl _) hBn hGs
    simpa using this
  · exact hO5.keep (by rw [World.size_setCell]; exact Nat.le_refl _) (fun k hk hk2 => Below.heap_setCell _ _ _ _ (by rcases hk2 with h | h <;> (simp; omega)))
  · exact hstep.trans ⟨rfl, rfl, rfl, by rw [World.size_setCell]; exact Nat.le_refl _, fun k _ hk _ _ => Below.heap_setCell _ _ _ _ hk⟩
end Go.Proofs.YtjpdadibeocpfaaDoor
/-
  A byte is read (xml.take). Conditions: the parser lies at B, the tokens' variable at O; what the text of whole tokens brings (StepR).
-/
namespace Go.Proofs.YtjpdadibeocpfaaDoor
set_option linter.unusedVariables false
set_option linter.unusedSimpArgs false
open Go.RowKit Go.MapKept Go.Proofs
variable {K : Nat → Prop}
set_option maxRecDepth 100000 in
set_option maxHeartbeats 8000000 in
theorem xtake_any (n0 n1 B O : Nat) (c : UInt8) (S S' : Ps) (l tk : List Tk) (w : World) (hP : PsAt K n0 B w S) (hO : OutAt n1 O w l) (hne : O ≠ B) (h0 : n1 ≤ w.heap.size) (h01 : n0 ≤ n1) (hK : ∀ k, K k → k < n1) (hS : StepR S c (some (S', tk))) (hw : S.w.length ≤ 2048) (hl : l.length ≤ 800) :
    Calls Tryd.prog 19 #[.pointer (some ⟨B, 0, none⟩), .int .u8 (c.toNat : Int), .func (.func 18) #[] #[.pointer (some ⟨O, 0, none⟩)]] w fun e w' => e = .returned (.tuple #[]) ∧ PsAt K n0 B w' S' ∧ OutAt n1 O w' (l ++ tk) ∧ StepK K B O w w' := by
  obtain ⟨w0, tk0, hA, hC⟩ := step_parts hS
  clear hS
  have hP0 := Lib.hid hP
  obtain ⟨hBn, wv, ov, an, hobj, hOw, hOo, hKw⟩ := hP
  obtain ⟨c0, c1, c2, c3, c4, c5, hfz, hBl⟩ := pr_cells hobj
  obtain ⟨wp, wc, rfl⟩ := owns_val hOw
  have hA' : ∃ isA, (isA = false ∧ w0 = S.w ∧ tk0 = [] ∧ ((((c.toNat : Int) == 60) = false) ∨ (((c.toNat : Int) == 60) = true ∧ S.w = []))) ∨ (isA = true ∧ ((c.toNat : Int) == 60) = true ∧ w0 = [] ∧ ∃ t x r, S.w = escL t ∧ t ≠ [] ∧ fitsP t = true ∧ S.op ≠ [] ∧ tk0 = [⟨3, [], [], t⟩] ∧ S.w = x :: r ∧ x ≠ 60) := by
    rcases hA with ⟨h1, h2, h3⟩ | ⟨h1, h2, h3, h4⟩ | ⟨h1, h2, t, h3, h4, h5, h6, h7⟩
    · exact ⟨false, .inl ⟨rfl, h2, h3, .inl (u8ne h1)⟩⟩
    · exact ⟨false, .inl ⟨rfl, h3.trans h2.symm, h4, .inr ⟨by rw [h1]; rfl, h2⟩⟩⟩
    · obtain ⟨x, r, hx⟩ : ∃ x r, escL t = x :: r := by
        cases h : escL t with
        | nil => exact absurd h (escL_ne h4)
        | cons x r => exact ⟨x, r, rfl⟩
      exact ⟨true, .inr ⟨rfl, by rw [h1]; rfl, h2, t, x, r, h3, h4, h5, h6, h7, h3.trans hx, (escL_no t x (by rw [hx]; simp)).1⟩⟩
  clear hA
  obtain ⟨isA, hA⟩ := hA'
  replace hO := Lib.hid hO
  go_enter Tryd.func19, Tryd.ntmps19
  go_upto_region 0 with (fail)
  go_cut [6] (fun v6 W => w = W ∧ ∃ b : Bool, v6 = .bool b ∧ (isA = true → b = false))
  case first =>
    obtain ⟨M, hM⟩ : ∃ M, M = S.w.length := ⟨_, rfl⟩
    rw [← hM] at c0
    cases hSw : S.w with
    | nil =>
      obtain rfl : M = 0 := by rw [hM, hSw]; rfl
      clear hM
      go_wp2_with fail
      go_meet
      exact ⟨rfl, _, rfl, fun _ => rfl⟩
    | cons x r =>
      obtain ⟨m, rfl⟩ : ∃ m, M = m + 1 := ⟨r.length, by rw [hM, hSw]; rfl⟩
      obtain ⟨g, cp, hv, -, hgl⟩ := owns_head hOw (by rw [hSw]; simp)
      obtain ⟨e1, -, e3⟩ := Value.slice.inj hv
      subst e1 e3
      have h5 := byte_cell hOw x r hSw
      have q0 : (0 : Int) < (m : Int) + 1 := by omega
      have hx : isA = true → ((x.toNat : Int) == 60) = false := fun h => by
        rcases hA with ⟨h1, -⟩ | ⟨-, -, -, t, x', r', -, -, -, -, -, h2, h3⟩
        · rw [h1] at h; cases h
        · rw [hSw] at h2
          injection h2 with h2 _
          rw [h2]; exact u8ne h3
      replace hx := Lib.hid hx
      replace hM := Lib.hid hM
      replace hSw := Lib.hid hSw
      go_wp2_with fail
      go_meet
      exact ⟨rfl, _, rfl, hx.out⟩
  obtain ⟨rfl, b6, rfl, hb6⟩ := hcut
  go_upto_region 1 with (fail)
  go_cut [35] (fun v35 W => v35 = .bool isA ∧ w = W)
  case first =>
    rcases hA with ⟨rfl, -, -, h | ⟨h1, h2⟩⟩ | ⟨rfl, h1, -, t, x, r, -, -, -, -, -, h2, h3⟩
    · go_wp2_with fail
      go_meet
      exact ⟨rfl, rfl⟩
    · rw [h2] at c0
      cases b6
      · go_wp2_with fail
        go_meet
        exact ⟨rfl, rfl⟩
      · go_wp2_with fail
        go_meet
        exact ⟨rfl, rfl⟩
    · obtain rfl := hb6 rfl
      rw [h2, List.length_cons] at c0
      have q0 : (0 : Int) < (r.length : Int) + 1 := by omega
      clear h3
      go_wp2_with fail
      go_meet
      exact ⟨rfl, rfl⟩
  obtain ⟨rfl, rfl⟩ := hcut
  go_upto_if 35 with (fail)
  go_cut [35] (fun _ W => Hid (PsAt K n0 B W ⟨w0, S.q, S.op, S.rt⟩) ∧ Hid (OutAt n1 O W (l ++ tk0)) ∧ Hid (StepK K B O w W))
  case first =>
    rcases hA with ⟨rfl, rfl, rfl, -⟩ | ⟨rfl, -, rfl, t, x, r, ht1, ht2, ht3, ht4, rfl, -, -⟩
    · go_wp2_with fail
      go_meet
      exact ⟨Lib.hid hP0.out, Lib.hid (by have := hO.out; rwa [List.append_nil]), Lib.hid (StepK.refl _ _ _ _)⟩
    · have hPc := Lib.hid (piece_any n0 B S w hP0.out)
      clear hOw hobj hOo hKw c0 c1 c2 c3 c4 c5 hb6
      rw [ht1] at hPc
      replace ht1 := Lib.hid ht1
      go_wp2_with (first
        | (go_at_call 36; refine hPc.out.mono ?_; rintro e w2 ⟨rfl, hw2, hP2⟩
           have hO2 : OutAt n1 O w2 l := by
             rw [hw2]
             exact hO.out.keep (by rw [World.size_setCell]; exact Nat.le_refl _) (fun k hk hk2 => Below.heap_setCell _ _ _ _ (by rcases hk2 with h | h <;> (simp; omega)))
           have hS2 : StepK K B O w w2 := by
             rw [hw2]
             exact Step2.k (Step2.setB _) hK
           have hs2 : w2.heap.size = w.heap.size := by rw [hw2, World.size_setCell]
           have hCh := Lib.hid (xchars_any n0 n1 B O t ⟨[], S.q, S.op, S.rt⟩ l w2 hP2 hO2 hne (by omega) h01 ht3 ht2 ht4 (by omega))
           clear hw2 hP2 hO2 hPc
           replace hS2 := Lib.hid hS2)
        | (go_at_call 35; refine hCh.out.mono ?_; rintro e w3 ⟨rfl, hP3, hO3, hS3⟩
           obtain ⟨-, wv3, ov3, an3, ho3, hOw3, hOo3, hKw3⟩ := hP3
           obtain ⟨d0, d1, d2, d3, d4, d5, dfz, dBl⟩ := pr_cells ho3
           replace hS3 := Lib.hid (hS2.out.trans (Step2.k hS3 hK))
           replace ho3 := Lib.hid ho3; replace hOw3 := Lib.hid hOw3; replace hOo3 := Lib.hid hOo3; replace hKw3 := Lib.hid hKw3; replace hO3 := Lib.hid hO3))
      go_meet
      have hG : w3.grownBy (w3.setCell ⟨B, 4, none⟩ (.bool true)) (some B) := grown_set _ (grown_of (Below.refl _ _))
      exact ⟨Lib.hid ⟨hBn, wv3, ov3, true, obj_set (i := 4) ho3.out _, owns_grown hOw3.out (Nat.le_refl _) hBn hG, owns_grown hOo3.out (Nat.le_refl _) hBn hG, hKw3.out⟩,
        Lib.hid (hO3.out.keep (by rw [World.size_setCell]; exact Nat.le_refl _) (fun k hk hk2 => Below.heap_setCell _ _ _ _ (by rcases hk2 with h | h <;> (simp; omega)))),
        Lib.hid (hS3.out.trans (Step2.k (Step2.setB _) hK))⟩
  obtain ⟨hP1, hO1, hS1⟩ := hcut
  obtain ⟨W1, hW1⟩ : ∃ W1, W1 = wc := ⟨_, rfl⟩
  subst hW1
  have hw0 : w0.length ≤ 2048 := by rcases hA with ⟨-, h, -⟩ | ⟨-, -, h, -⟩ <;> rw [h] <;> first | exact hw | simp
  have hs1 := hS1.out.size
  obtain ⟨wv1, ov1, an1, g5, c5', wb, hobj1, ⟨a0, c0', rfl⟩, hr, hob, hBb, hfb, hcb, ho2, hO2, hP2, hOut2, hSt2⟩ := push_facts n0 n1 B O W1 ⟨w0, S.q, S.op, S.rt⟩ c (l ++ tk0) hP1.out hO1.out hne (by omega) h01 hK (by simp only; omega)
  simp only at hobj1 hr hob hcb ho2 hO2 hP2
  clear hA c0 c1 c2 c3 c4 c5 hfz hobj hOw hOo hKw hb6 hP0 hO hP1 hO1
  obtain ⟨d0, d1, d2, d3, d4, d5, dfz, dBl⟩ := pr_cells hobj1
  replace hSt2 := Lib.hid (hS1.out.trans hSt2)
  clear hS1
  replace hr := Lib.hid hr
  replace ho2 := Lib.hid ho2
  replace hO2 := Lib.hid hO2
  replace hP2 := Lib.hid hP2
  replace hOut2 := Lib.hid hOut2
  replace hob := Lib.hid hob
  replace hobj1 := Lib.hid hobj1
  go_upto_region 4 with (fail)
  go_cut [51] (fun _ W => wb.setCell ⟨B, 0, none⟩ (.slice (some ⟨g5, 0, none⟩) (w0.length + 1) c5') = W)
  case first =>
    go_wp2_with (at_builtin; refine wpList_app_runP _ wb rfl _ _ 22 rfl _ _ _ rfl rfl hr.out ?_)
    go_meet
    rfl
  clear d0 d1 d2 d3 d4 d5 dfz dBl hr hcb hfb hBb hob
  generalize wb.setCell ⟨B, 0, none⟩ (.slice (some ⟨g5, 0, none⟩) (w0.length + 1) c5') = W2 at hcut ho2 hO2 hP2 hOut2 hSt2
  subst hcut
  have hs2 := hSt2.out.size
  obtain ⟨e0, e1, e2, e3, e4, e5, efz, eBl⟩ := pr_cells ho2.out
  have hg5l := (hO2.out.lt g5 rfl).2
  have hOset : ∀ i v, OutAt n1 O (W2.setCell ⟨B, i, none⟩ v) (l ++ tk0) := fun i v => hOut2.out.keep (by rw [World.size_setCell]; exact Nat.le_refl _) (fun k hk hk2 => Below.heap_setCell _ _ _ _ (by rcases hk2 with h | h <;> (simp; omega)))
  have hSset : ∀ i v, StepK K B O w (W2.setCell ⟨B, i, none⟩ v) := fun i v => hSt2.out.trans (Step2.k (Step2.setB _) hK)
  have hset : ∀ q' : UInt8, PsAt K n0 B (W2.setCell ⟨B, 1, none⟩ (.int .u8 (q'.toNat : Int))) ⟨w0 ++ [c], q', S.op, S.rt⟩ := fun q' => by
    obtain ⟨hBn, wv, ov, an, hobj, hOw, hOo, hKw⟩ := hP2.out
    have hG : W2.grownBy (W2.setCell ⟨B, 1, none⟩ (.int .u8 (q'.toNat : Int))) (some B) := grown_set _ (grown_of (Below.refl _ _))
    exact ⟨hBn, wv, ov, an, obj_set (i := 1) hobj _, owns_grown hOw (Nat.le_refl _) hBn hG, owns_grown hOo (Nat.le_refl _) hBn hG, hKw⟩
  replace hOset := Lib.hid hOset
  replace hSset := Lib.hid hSset
  replace hset := Lib.hid hset
  rcases hC with ⟨x, r, hx, hx60, hC⟩ | ⟨r, hx, hC⟩
  · have hb := byte_cell hO2.out x r hx
    have hx6 : ((x.toNat : Int) != 60) = true := by
      have := u8ne hx60
      simp only [show (((60 : UInt8).toNat : Nat) : Int) = 60 from rfl] at this
      rw [bne, this]; rfl
    replace hx := Lib.hid hx
    replace hx60 := Lib.hid hx60
    rcases hC with ⟨hle, hR⟩ | ⟨-, hR, -⟩
    · injection hR with hR
      injection hR with hR1 hR2
      subst hR1 hR2
      have h5 : (w0.length : Int) + 1 ≤ 512 := by omega
      clear hle
      go_wp2_with (go_at_call 37; refine (must_ok 5 _).mono ?_; rintro e w3 ⟨rfl, rfl⟩)
      exact bodyPost_ret (results_none rfl _ _ _) rfl ⟨rfl, hP2.out, hOut2.out, hSt2.out⟩
    · cases hR
  · have hb := byte_cell hO2.out 60 r hx
    rcases hC with ⟨h62, hq, hle, hR⟩ | ⟨-, hR, -⟩ | ⟨rfl, rfl, hle, hq, p, op', rt', hpt, rfl, hpg, hpR, hR⟩
    · injection hR with hR
      injection hR with hR1 hR2
      subst hR1 hR2
      have h5 : (w0.length : Int) + 1 ≤ 2048 := by omega
      have n62 := u8ne h62
      simp only [show (((62 : UInt8).toNat : Nat) : Int) = 62 from rfl] at n62
      replace hx := Lib.hid hx
      replace h62 := Lib.hid h62
      clear hle
      have fn : ∀ k : UInt8, c ≠ k → (((c.toNat : Int) == (k.toNat : Int)) = false) := fun k h => u8ne h
      have fn' : ∀ k : UInt8, c ≠ k → (((k.toNat : Int) == (c.toNat : Int)) = false) := fun k h => u8ne fun e => h e.symm
      rcases hq with hq | hq
      · rw [hq] at e1
        replace e1 : W2.cell? ⟨B, 1, none⟩ = some (.int .u8 0) := e1
        by_cases h0c : c = 0
        · have hQ : Hid (qStep S.q c = 0) := Lib.hid (by rw [hq, h0c]; decide)
          have g0 : ((0 : Int) == (c.toNat : Int)) = true := by rw [h0c]; rfl
          replace h0c := Lib.hid h0c
          replace hq := Lib.hid hq
          clear fn fn'
          go_wp2_with (go_at_call 37; refine (must_ok 5 _).mono ?_; rintro e w3 ⟨rfl, rfl⟩)
          go_end0
          exact ⟨rfl, by rw [hQ.out]; exact hset.out 0, hOset.out _ _, hSset.out _ _⟩
        · have g0 : ((0 : Int) == (c.toNat : Int)) = false := fn' 0 h0c
          replace h0c := Lib.hid h0c
          by_cases h39 : c = 39
          · have g1 : ((c.toNat : Int) == 39) = true := by rw [h39]; rfl
            have hQ : Hid (qStep S.q c = c) := Lib.hid (by rw [hq, h39]; decide)
            replace h39 := Lib.hid h39
            replace hq := Lib.hid hq
            clear fn fn'
            go_wp2_with (go_at_call 37; refine (must_ok 5 _).mono ?_; rintro e w3 ⟨rfl, rfl⟩)
            go_end0
            exact ⟨rfl, by rw [hQ.out]; exact hset.out c, hOset.out _ _, hSset.out _ _⟩
          · by_cases h34 : c = 34
            · have g1 : ((c.toNat : Int) == 39) = false := fn 39 h39
              have g2 : ((c.toNat : Int) == 34) = true := by rw [h34]; rfl
              have hQ : Hid (qStep S.q c = c) := Lib.hid (by rw [hq, h34]; decide)
              replace h39 := Lib.hid h39
              replace h34 := Lib.hid h34
              replace hq := Lib.hid hq
              clear fn fn'
              go_wp2_with (go_at_call 37; refine (must_ok 5 _).mono ?_; rintro e w3 ⟨rfl, rfl⟩)
              go_end0
              exact ⟨rfl, by rw [hQ.out]; exact hset.out c, hOset.out _ _, hSset.out _ _⟩
            · have g1 : ((c.toNat : Int) == 39) = false := fn 39 h39
              have g2 : ((c.toNat : Int) == 34) = false := fn 34 h34
              have hQ : Hid (qStep S.q c = S.q) := Lib.hid (by rw [hq]; unfold qStep; simp [h39, h34])
              replace h39 := Lib.hid h39
              replace h34 := Lib.hid h34
              replace hq := Lib.hid hq
              clear fn fn'
              go_wp2_with (go_at_call 37; refine (must_ok 5 _).mono ?_; rintro e w3 ⟨rfl, rfl⟩)
              go_end0
              exact ⟨rfl, by rw [hQ.out]; exact hP2.out, hOut2.out, hSt2.out⟩
      · rw [hq] at e1
        replace e1 : W2.cell? ⟨B, 1, none⟩ = some (.int .u8 39) := e1
        by_cases h39 : c = 39
        · have g1 : ((39 : Int) == (c.toNat : Int)) = true := by rw [h39]; rfl
          have hQ : Hid (qStep S.q c = 0) := Lib.hid (by rw [hq, h39]; decide)
          replace h39 := Lib.hid h39
          replace hq := Lib.hid hq
          clear fn fn'
          go_wp2_with (go_at_call 37; refine (must_ok 5 _).mono ?_; rintro e w3 ⟨rfl, rfl⟩)
          go_end0
          exact ⟨rfl, by rw [hQ.out]; exact hset.out 0, hOset.out _ _, hSset.out _ _⟩
        · have g1 : ((39 : Int) == (c.toNat : Int)) = false := fn' 39 h39
          have hQ : Hid (qStep S.q c = S.q) := Lib.hid (by rw [hq]; unfold qStep; simp [h39])
          replace h39 := Lib.hid h39
          replace hq := Lib.hid hq
          clear fn fn'
          go_wp2_with (go_at_call 37; refine (must_ok 5 _).mono ?_; rintro e w3 ⟨rfl, rfl⟩)
          go_end0
          exact ⟨rfl, by rw [hQ.out]; exact hP2.out, hOut2.out, hSt2.out⟩
    · cases hR
    · injection hR with hR
      injection hR with hR1 hR2
      subst hR1 hR2
      have h5 : (p.body.length : Int) + 1 ≤ 2048 := by omega
      rw [hq] at e1
      replace e1 : W2.cell? ⟨B, 1, none⟩ = some (.int .u8 0) := e1
      have hPc := piece_any n0 B _ W2 hP2.out
      simp only at hPc
      rw [← p.text_body hpt] at hPc
      replace hPc := Lib.hid hPc
      have hq' := Lib.hid hq
      replace hx := Lib.hid hx
      replace hpt' := Lib.hid hpt
      clear hle hq hpt
      rw [List.append_nil] at hOut2
      go_wp2_with (first
        | (go_at_call 37; refine (must_ok 5 _).mono ?_; rintro e w3 ⟨rfl, rfl⟩)
        | (go_at_call 36; refine hPc.out.mono ?_; rintro e w4 ⟨rfl, hw4, hP4⟩
           have hO4 : OutAt n1 O w4 l := by
             rw [hw4]
             exact hOut2.out.keep (by rw [World.size_setCell]; exact Nat.le_refl _) (fun k hk hk2 => Below.heap_setCell _ _ _ _ (by rcases hk2 with h | h <;> (simp; omega)))
           have hS4 : StepK K B O w w4 := by rw [hw4]; exact hSset.out _ _
           have hs4 : w4.heap.size = W2.heap.size := by rw [hw4, World.size_setCell]
           have hTg := Lib.hid (xtag_any n0 n1 B O p op' rt' ⟨[], S.q, S.op, S.rt⟩ l w4 hP4 hO4 hne (by omega) h01 hpg hpt'.out hpR (by omega))
           clear hw4 hP4 hO4 hPc
           replace hS4 := Lib.hid hS4)
        | (go_at_call 38; refine hTg.out.mono ?_; rintro e w5 ⟨rfl, hP5, hO5, hS5⟩
           obtain ⟨hBn, wv5, ov5, an5, ho5, hOw5, hOo5, hKw5⟩ := hP5
           obtain ⟨m0, m1, m2, m3, m4, m5, mfz, mBl⟩ := pr_cells ho5
           replace hS5 := Lib.hid (hS4.out.trans (Step2.k hS5 hK))
           replace ho5 := Lib.hid ho5; replace hOw5 := Lib.hid hOw5; replace hOo5 := Lib.hid hOo5; replace hKw5 := Lib.hid hKw5; replace hO5 := Lib.hid hO5))
      go_end0
      have hG : w5.grownBy (w5.setCell ⟨B, 4, none⟩ (.bool true)) (some B) := grown_set _ (grown_of (Below.refl _ _))
      refine ⟨rfl, ⟨hBn, wv5, ov5, true, ?_, owns_grown hOw5.out (Nat.le_refl _) hBn hG, owns_grown hOo5.out (Nat.le_refl _) hBn hG, hKw5.out⟩, hO5.out.keep (by rw [World.size_setCell]; exact Nat.le_refl _) (fun k hk hk2 => Below.heap_setCell _ _ _ _ (by rcases hk2 with h | h <;> (simp; omega))), hS5.out.trans (Step2.k (Step2.setB _) hK)⟩
      have := obj_set (i := 4) ho5.out (.bool true)
      simp only [hq'.out] at this
      exact this
end Go.Proofs.YtjpdadibeocpfaaDoor
