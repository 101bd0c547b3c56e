/-
  Bytes made of a text, or laid, are read; what stays. Conditions: the parser lies at B; each byte goes through (Tr), or the parser gives up at one (FailR).
-/
import Derived.Test.YtjpdadibeocpfaaDoorTcPure
import Derived.Test.YtjpdadibeocpfaaDoorPrFa
namespace Go.Proofs.YtjpdadibeocpfaaDoor
set_option linter.unusedVariables false
set_option linter.unusedSimpArgs false
open Go.RowKit Go.MapKept Go.Proofs
/-- tokens stay where only a parser and what waits in it change -/
theorem TkO.wait2 {n n0 k B : Nat} {w w' : World} {v wv : Value} {l : List Tk} {xs : List Value} (h : TkO n w v l) (ho : w.ownsRow n0 5 1 wv k xs) (hB : B < n) (hs : w.heap.size ≤ w'.heap.size) (hb : ∀ k, k < w.heap.size → k ≠ B → some k ≠ wv.ownBlock → w'.heap[k]? = w.heap[k]?) : TkO n w' v l := by
  obtain ⟨ps, h0, h1, h2⟩ := h
  refine ⟨ps, h0, ?_, fun p hp => ⟨?_, fun r hr => ?_⟩⟩
  · refine ⟨h1.1, ?_⟩
    rcases h1.2 with h3 | ⟨g, cap, cur, rfl, h3, h4, h5⟩
    · exact .inl h3
    · exact .inr ⟨g, cap, cur, rfl, h3, (hb g (Array.getElem?_eq_some_iff.1 h4).1 (by omega) (fun e => owns_apart h1 ho (by decide) g rfl e.symm)).trans h4, h5⟩
  · obtain ⟨p1, c1, e1, e2, e3, e4⟩ := (h2 p hp).1
    refine ⟨p1, c1, e1, e2, e3, fun h0 => ?_⟩
    obtain ⟨b, o, f1, f2, f3, f4⟩ := e4 h0
    have hne : some b ≠ wv.ownBlock := (h2 p hp).2.ne ho (by decide) b (by rw [e1, f1]; rfl)
    have hbb := hb b f2 (by omega) hne
    exact ⟨b, o, f1, Nat.lt_of_lt_of_le f2 hs, f3, fun i hi => ⟨(World.cell?_of_block (a := ⟨b, _, none⟩) hbb).trans (f4 i hi).1, (World.cell?_of_block (a := ⟨b, _, none⟩) hbb).trans (f4 i hi).2⟩⟩
  · obtain ⟨q1, cur, hc⟩ := (h2 p hp).2 r hr
    exact ⟨q1, cur, (hb r ((h2 p hp).2.lt r hr) (by omega) ((h2 p hp).2.ne ho (by decide) r hr)).trans hc⟩
theorem TkO.feed {K : Nat → Prop} {n n0 B : Nat} {w w' : World} {v : Value} {l : List Tk} {S : Ps} (h : TkO n w v l) (hP : PsAt K n0 B w S) (hB : B < n) (hf : FeedK B w w') : TkO n w' v l := by
  obtain ⟨-, wv, ov, an, ho, hw, -⟩ := hP
  exact h.wait2 hw hB hf.2.2.2.1 (hf.2.2.2.2 wv (((obj_cells ho).1 0).trans rfl))
/-- what lay ahead of the parser stays -/
theorem FeedK.below {K : Nat → Prop} {n0 B : Nat} {w0 w w' : World} {S : Ps} (hf : FeedK B w w') (hb : Below w0.heap.size w0 w) (hP : PsAt K n0 B w S) (h0 : w0.heap.size ≤ B) (h1 : w0.heap.size ≤ n0) : Below w0.heap.size w0 w' := by
  obtain ⟨-, wv, ov, an, ho, hw, -⟩ := hP
  obtain ⟨f1, f2, f3, f4, f5⟩ := hf
  refine ⟨f1.trans hb.os, f2.trans hb.tape, f3.trans hb.output, Nat.le_trans hb.size f4, fun k hk => ?_⟩
  exact (f5 wv (((obj_cells ho).1 0).trans rfl) k (Nat.lt_of_lt_of_le hk hb.size) (by omega) (fun e => by have := (hw.lt k e.symm).1; omega)).trans (hb.block k hk)
/-- bytes made of a text are read -/
theorem xfeed_bytes (n0 B cap : Nat) (s : List UInt8) (S S' : Ps) (out : List Tk) (w : World) (hP : PsAt (fun _ => False) n0 B w S) (h0 : n0 ≤ w.heap.size) (hT : Tr S s S' out) (hw : S.w.length ≤ 2048) (hlen : out.length ≤ 800) (hm : s.length ≤ 140737488351232) :
    Calls Tryd.prog 7 #[.pointer (some ⟨B, 0, none⟩), .slice (some ⟨w.heap.size, 0, none⟩) s.length cap] (Lib.bytesWorld w 5 ⟨s.toArray⟩) fun e w' => ∃ v, e = .returned (.tuple #[v, .int .i64 0]) ∧ TkO w.heap.size w' v out ∧ PsAt (fun _ => False) n0 B w' S' ∧ FeedK B w w' := by
  have hb := below_bytes w 5 ⟨s.toArray⟩
  have hsz := Lib.bytesWorld_size w 5 ⟨s.toArray⟩
  have hmd := U8Row.made w 5 s
  generalize Lib.bytesWorld w 5 ⟨s.toArray⟩ = W at hb hsz hmd ⊢
  have hP' := hP
  obtain ⟨hBn, wv, ov, an, ho, hOw, -⟩ := hP'
  have hc : w.cell? ⟨B, 0, none⟩ = some wv := ((obj_cells ho).1 0).trans rfl
  have hBl := (obj_cells ho).2.2
  have hcW : W.cell? ⟨B, 0, none⟩ = some wv := (hb.cell (p := ⟨B, 0, none⟩) hBl).trans hc
  refine (xfeed_tr n0 B w.heap.size cap s S S' out W (hP.below hb) (by omega) hT hw hlen (by omega) (by omega) (fun wv' hv e => ?_) hmd.1 hm).mono ?_
  · obtain rfl : wv' = wv := by have := hv.symm.trans hcW; simpa using this
    have := (hOw.lt _ e.symm).2
    omega
  · rintro e w' ⟨v, rfl, h1, h2, f1, f2, f3, f4, f5⟩
    refine ⟨v, rfl, h1.mono hb.size, h2, f1.trans hb.os, f2.trans hb.tape, f3.trans hb.output, Nat.le_trans hb.size f4, fun wv' hv k hk hkB hne => ?_⟩
    obtain rfl : wv' = wv := by have := hv.symm.trans hc; simpa using this
    exact (f5 wv' hcW k (by omega) hkB hne).trans (hb.block k hk)
theorem Tr.len {S S' : Ps} {s : List UInt8} {out : List Tk} (h : Tr S s S' out) : S.w.length ≤ 2048 → S'.w.length ≤ 2048 := by
  induction h with
  | nil S => exact fun h => h
  | cons h1 _ ih => exact fun _ => ih (step_len h1)
theorem wpList_app_runG {P : Program} (w w' : World) {ops : Array Oper} {rest : List Oper} {o : Oper} {a : Act} {Q : Exit → Act → World → Prop} (hgd : Region.wanted o (yielded ops a.tmps) = true) (s x : Operand) (t : TypeId)
    (ho : o.op = .call { callee := .builtin .append, args := #[s, x], argTypes := #[t, t] }) (v u v' : Value) (hs : a.eval s = v) (hx : a.eval x = u)
    (hrun : (Builtin.append_ #[t, t] o.type #[v, u]).run P w = .ok v' w') (h : wpList P ops Q rest (a.put o.dst v') w') : wpList P ops Q (o :: rest) a w := by
  refine wpList_step fun K hK => ?_
  rw [if_pos hgd]
  unfold Oper.wp execOp
  simp only [ho, resolve, invoke, builtin, Sem.run_bind, Sem.run_pure, Result.andThen_ok, List.map_toArray, List.map_cons, List.map_nil, hs, hx, hrun]
  exact hK _ _ h
theorem TkO.val {n : Nat} {w : World} {v : Value} {l : List Tk} (h : TkO n w v l) : ∃ a c, v = .slice a l.length c := by
  obtain ⟨ps, rfl, o, -⟩ := h
  rw [List.length_map]
  exact owns_val o
/-- bytes that lie in a newer block are read -/
theorem xfeed_at (n0 B gb cap : Nat) (s : List UInt8) (S S' : Ps) (out : List Tk) (w W : World) (hP : PsAt (fun _ => False) n0 B w S) (h0 : n0 ≤ w.heap.size) (hb : Below w.heap.size w W) (hgb : w.heap.size ≤ gb) (hgl : gb < W.heap.size) (hmd : ∀ j (h : j < s.length), W.cell? ⟨gb, j, none⟩ = some (.int .u8 ((s[j]'h).toNat : Int))) (hT : Tr S s S' out) (hw : S.w.length ≤ 2048) (hlen : out.length ≤ 800) (hm : s.length ≤ 140737488351232) :
    Calls Tryd.prog 7 #[.pointer (some ⟨B, 0, none⟩), .slice (some ⟨gb, 0, none⟩) s.length cap] W fun e w' => ∃ v, e = .returned (.tuple #[v, .int .i64 0]) ∧ TkO w.heap.size w' v out ∧ PsAt (fun _ => False) n0 B w' S' ∧ FeedK B w w' := by
  have hP' := hP
  obtain ⟨hBn, wv, ov, an, ho, hOw, -⟩ := hP'
  have hc : w.cell? ⟨B, 0, none⟩ = some wv := ((obj_cells ho).1 0).trans rfl
  have hBl := (obj_cells ho).2.2
  have hcW : W.cell? ⟨B, 0, none⟩ = some wv := (hb.cell (p := ⟨B, 0, none⟩) hBl).trans hc
  have hsz := hb.size
  refine (xfeed_tr n0 B gb cap s S S' out W (hP.below hb) (by omega) hT hw hlen (by omega) hgl (fun wv' hv e => ?_) hmd hm).mono ?_
  · obtain rfl : wv' = wv := by have := hv.symm.trans hcW; simpa using this
    have := (hOw.lt _ e.symm).2
    omega
  · rintro e w' ⟨v, rfl, h1, h2, f1, f2, f3, f4, f5⟩
    refine ⟨v, rfl, h1.mono hb.size, h2, f1.trans hb.os, f2.trans hb.tape, f3.trans hb.output, Nat.le_trans hb.size f4, fun wv' hv k hk hkB hne => ?_⟩
    obtain rfl : wv' = wv := by have := hv.symm.trans hc; simpa using this
    exact (f5 wv' hcW k (by omega) hkB hne).trans (hb.block k hk)
/-- bytes that lie in a newer block are read up to one at which the parser gives up -/
theorem xfall_at (n0 B gb cap : Nat) (s1 s2 s : List UInt8) (c : UInt8) (k : Int) (S S' : Ps) (out : List Tk) (w W : World) (hP : PsAt (fun _ => False) n0 B w S) (h0 : n0 ≤ w.heap.size) (hb : Below w.heap.size w W) (hgb : w.heap.size ≤ gb) (hgl : gb < W.heap.size) (hmd : ∀ j (h : j < s.length), W.cell? ⟨gb, j, none⟩ = some (.int .u8 ((s[j]'h).toNat : Int))) (hT : Tr S s1 S' out) (hF : FailR S' c k) (hse : s = s1 ++ c :: s2) (hw : S.w.length ≤ 2048) (hlen : out.length ≤ 800) (hm : s.length ≤ 140737488351232) :
    Calls Tryd.prog 7 #[.pointer (some ⟨B, 0, none⟩), .slice (some ⟨gb, 0, none⟩) s.length cap] W fun e w' => ∃ v, e = .returned (.tuple #[v, .int .i64 k]) ∧ FeedK B w w' := by
  have hP' := hP
  obtain ⟨hBn, wv, ov, an, ho, hOw, -⟩ := hP'
  have hc : w.cell? ⟨B, 0, none⟩ = some wv := ((obj_cells ho).1 0).trans rfl
  have hBl := (obj_cells ho).2.2
  have hcW : W.cell? ⟨B, 0, none⟩ = some wv := (hb.cell (p := ⟨B, 0, none⟩) hBl).trans hc
  have hsz := hb.size
  refine (xfeed_fall n0 B gb cap s1 s2 s c k S S' out W (hP.below hb) (by omega) hT hF hse hw hlen (by omega) hgl (fun wv' hv e => ?_) hmd hm).mono ?_
  · obtain rfl : wv' = wv := by have := hv.symm.trans hcW; simpa using this
    have := (hOw.lt _ e.symm).2
    omega
  · rintro e w' ⟨v, rfl, f1, f2, f3, f4, f5⟩
    refine ⟨v, rfl, f1.trans hb.os, f2.trans hb.tape, f3.trans hb.output, Nat.le_trans hb.size f4, fun wv' hv k hk hkB hne => ?_⟩
    obtain rfl : wv' = wv := by have := hv.symm.trans hc; simpa using this
    exact (f5 wv' hcW k (by omega) hkB hne).trans (hb.block k hk)
theorem lit_cells (w : World) (s : List UInt8) : ∀ j (h : j < s.length), (w.alloc (.cells (s.map fun c => Value.int .u8 (c.toNat : Int)).toArray 5)).cell? ⟨w.heap.size, j, none⟩ = some (.int .u8 ((s[j]'h).toNat : Int)) := fun j h => by
  have := (obj_cells (heap_alloc w (.cells (s.map fun c => Value.int .u8 (c.toNat : Int)).toArray 5)).1).1 j
  rw [this]
  simp [h]
end Go.Proofs.YtjpdadibeocpfaaDoor
/-
  Texts that go through the parser, and texts that fall. Plain facts, no condition.
-/
namespace Go.Proofs.YtjpdadibeocpfaaDoor
set_option linter.unusedVariables false
set_option linter.unusedSimpArgs false
theorem Tr.cat {S S1 S2 : Ps} {s1 s2 : List UInt8} {o1 o2 : List Tk} (h : Tr S s1 S1 o1) (h2 : Tr S1 s2 S2 o2) : Tr S (s1 ++ s2) S2 (o1 ++ o2) := by
  induction h with
  | nil S => exact h2
  | cons h1 _ ih => rw [List.cons_append, List.append_assoc]; exact .cons h1 (ih h2)
/-- inside a tag -/
theorem tag_run (op : List (List UInt8)) (rt : Bool) : ∀ (r w : List UInt8) (q : UInt8), (∃ b, w = 60 :: b) → (∀ x ∈ r, x ≠ 62 ∧ x ≠ 60 ∧ x ≠ 34) → (q = 0 ∨ q = 39) → w.length + r.length ≤ 2048 → Tr ⟨w, q, op, rt⟩ r ⟨w ++ r, qSt r q, op, rt⟩ []
  | [], w, q, _, _, _, _ => by rw [List.append_nil]; exact .nil _
  | c :: r, w, q, ⟨b, hb⟩, hr, hq, hl => by
    obtain ⟨h1, h2, h3⟩ := hr c (by simp)
    have hq' : qStep q c = 0 ∨ qStep q c = 39 := qSt_two [c] q (by intro b hb; rw [List.mem_singleton.1 hb]; exact h3) hq
    have ih := tag_run op rt r (w ++ [c]) (qStep q c) ⟨b ++ [c], by rw [hb]; rfl⟩ (fun x hx => hr x (by simp [hx])) hq' (by simp at hl ⊢; omega)
    rw [List.append_assoc] at ih
    have hs : StepR ⟨w, q, op, rt⟩ c (some (⟨w ++ [c], qStep q c, op, rt⟩, [])) := .tag c b hb h1 h2 hq (by simp at hl ⊢; omega)
    have := Tr.cons hs ih
    exact this
/-- a tag goes through -/
theorem tag_tr (p : Pc) (op op' : List (List UInt8)) (rt rt' : Bool) (hT : p.isTxt = false) (hg : p.good) (hR : TagR op rt op' rt' p) (hl : p.text.length ≤ 2048) : Tr ⟨[], 0, op, rt⟩ p.text ⟨[], 0, op', rt'⟩ p.toks := by
  obtain ⟨⟨b, hb, -, hx⟩, hq, -⟩ := body_facts hg hT
  have h34 := body_34 hg hT
  have ht := p.text_body hT
  have hlb : p.body.length + 1 ≤ 2048 := by rw [ht] at hl; simpa using hl
  rw [ht, hb, List.cons_append]
  have h1 : StepR ⟨[], 0, op, rt⟩ 60 (some (⟨[60], 0, op, rt⟩, [])) := .opn rfl rfl
  have h2 := tag_run op rt b [60] 0 ⟨[], rfl⟩ (fun x h => ⟨(hx x h).1, (hx x h).2, h34 x (by rw [hb]; simp [h])⟩) (.inl rfl) (by rw [hb] at hlb; simp at hlb ⊢; omega)
  have e1 : [60] ++ b = p.body := by rw [hb]; rfl
  have e2 : qSt b 0 = 0 := by
    have : qSt p.body 0 = qSt b 0 := by rw [hb]; show qSt b (qStep 0 60) = qSt b 0; rw [show qStep 0 60 = (0 : UInt8) by decide]
    rw [← this, hq]
  rw [e1, e2] at h2
  have h3 : StepR ⟨p.body, 0, op, rt⟩ 62 (some (⟨[], 0, op', rt'⟩, p.toks)) := .fin p op' rt' hT rfl hg rfl hR hlb
  have := Tr.cons h1 (h2.cat (.cons h3 (.nil _)))
  simpa using this
/-- all goes through, or a byte falls and the text is long -/
theorem feed_or {l : List Tk} {s : List UInt8} : ∀ n i S out, s.length - i = n → i ≤ s.length → FeedI l s i S out → (∃ S' o2, Tr S (s.drop i) S' o2 ∧ l = out ++ o2 ∧ S'.w = [] ∧ S'.op = []) ∨ (∃ s1 c s2 S1 o1, s.drop i = s1 ++ c :: s2 ∧ Tr S s1 S1 o1 ∧ (out ++ o1).length ≤ l.length ∧ StepR S1 c none ∧ 512 < s.length)
  | 0, i, S, out, hn, hi, h => by
    obtain rfl : i = s.length := by omega
    obtain ⟨h1, h2, h3⟩ := feed_end h
    rw [List.drop_length]
    exact .inl ⟨S, [], .nil S, by rw [List.append_nil]; exact h1, h2, h3⟩
  | n + 1, i, S, out, hn, hi, h => by
    have hlt : i < s.length := by omega
    have hlen : out.length ≤ l.length := by
      rcases h with ⟨p, r, k, pt, -, -, -, -, h, -⟩ | ⟨-, h, -⟩
      · rw [h]; simp
      · rw [h]; exact Nat.le_refl _
    rcases feed_step h hlt with ⟨S1, tk, hR, hF⟩ | ⟨hR, h5⟩
    · rw [List.drop_eq_getElem_cons hlt]
      rcases feed_or n (i + 1) S1 (out ++ tk) (by omega) (by omega) hF with ⟨S', o2, h1, h2, h3, h4⟩ | ⟨s1, c, s2, S2, o1, h1, h2, h3, h4, h5⟩
      · exact .inl ⟨S', tk ++ o2, .cons hR h1, by rw [h2, List.append_assoc], h3, h4⟩
      · exact .inr ⟨s[i] :: s1, c, s2, S2, tk ++ o1, by rw [h1]; rfl, .cons hR h2, by rw [← List.append_assoc]; exact h3, h4, h5⟩
    · exact .inr ⟨[], _, _, S, [], List.drop_eq_getElem_cons hlt, .nil S, by rw [List.append_nil]; exact hlen, hR, h5⟩
end Go.Proofs.YtjpdadibeocpfaaDoor
