/-
  The walk of TopCarried. No condition.
-/
import Derived.Test.YtjpdadibeocpfaaDoorTcPure
import Derived.Test.YtjpdadibeocpfaaDoorWrPrint
namespace Go.Proofs.YtjpdadibeocpfaaDoor
set_option linter.unusedVariables false
set_option linter.unusedSimpArgs false
open Go.RowKit Go.MapKept Go.Proofs
attribute [local go_sem] mk_get ext0 extE
/-- tokens stay where only a parser and what waits in it change -/
theorem TkO.wait2 {n n0 k B : Nat} {w w' : World} {v wv : Value} {l : List Tk} {xs : List Value} (h : TkO n w v l) (ho : w.ownsRow n0 5 1 wv k xs) (hB : B < n) (hs : w.heap.size ≤ w'.heap.size) (hb : ∀ k, k < w.heap.size → k ≠ B → some k ≠ wv.ownBlock → w'.heap[k]? = w.heap[k]?) : TkO n w' v l := by
  obtain ⟨ps, h0, h1, h2⟩ := h
  refine ⟨ps, h0, ?_, fun p hp => ⟨?_, fun r hr => ?_⟩⟩
  · refine ⟨h1.1, ?_⟩
    rcases h1.2 with h3 | ⟨g, cap, cur, rfl, h3, h4, h5⟩
    · exact .inl h3
    · exact .inr ⟨g, cap, cur, rfl, h3, (hb g (Array.getElem?_eq_some_iff.1 h4).1 (by omega) (fun e => owns_apart h1 ho (by decide) g rfl e.symm)).trans h4, h5⟩
  · obtain ⟨p1, c1, e1, e2, e3, e4⟩ := (h2 p hp).1
    refine ⟨p1, c1, e1, e2, e3, fun h0 => ?_⟩
    obtain ⟨b, o, f1, f2, f3, f4⟩ := e4 h0
    have hne : some b ≠ wv.ownBlock := (h2 p hp).2.ne ho (by decide) b (by rw [e1, f1]; rfl)
    have hbb := hb b f2 (by omega) hne
    exact ⟨b, o, f1, Nat.lt_of_lt_of_le f2 hs, f3, fun i hi => ⟨(World.cell?_of_block (a := ⟨b, _, none⟩) hbb).trans (f4 i hi).1, (World.cell?_of_block (a := ⟨b, _, none⟩) hbb).trans (f4 i hi).2⟩⟩
  · obtain ⟨q1, cur, hc⟩ := (h2 p hp).2 r hr
    exact ⟨q1, cur, (hb r ((h2 p hp).2.lt r hr) (by omega) ((h2 p hp).2.ne ho (by decide) r hr)).trans hc⟩
theorem TkO.feed {K : Nat → Prop} {n n0 B : Nat} {w w' : World} {v : Value} {l : List Tk} {S : Ps} (h : TkO n w v l) (hP : PsAt K n0 B w S) (hB : B < n) (hf : FeedK B w w') : TkO n w' v l := by
  obtain ⟨-, wv, ov, an, ho, hw, -⟩ := hP
  exact h.wait2 hw hB hf.2.2.2.1 (hf.2.2.2.2 wv (((obj_cells ho).1 0).trans rfl))
/-- what lay ahead of the parser stays -/
theorem FeedK.below {K : Nat → Prop} {n0 B : Nat} {w0 w w' : World} {S : Ps} (hf : FeedK B w w') (hb : Below w0.heap.size w0 w) (hP : PsAt K n0 B w S) (h0 : w0.heap.size ≤ B) (h1 : w0.heap.size ≤ n0) : Below w0.heap.size w0 w' := by
  obtain ⟨-, wv, ov, an, ho, hw, -⟩ := hP
  obtain ⟨f1, f2, f3, f4, f5⟩ := hf
  refine ⟨f1.trans hb.os, f2.trans hb.tape, f3.trans hb.output, Nat.le_trans hb.size f4, fun k hk => ?_⟩
  exact (f5 wv (((obj_cells ho).1 0).trans rfl) k (Nat.lt_of_lt_of_le hk hb.size) (by omega) (fun e => by have := (hw.lt k e.symm).1; omega)).trans (hb.block k hk)
/-- bytes made of a text are read -/
theorem xfeed_bytes (n0 B cap : Nat) (s : List UInt8) (S S' : Ps) (out : List Tk) (w : World) (hP : PsAt (fun _ => False) n0 B w S) (h0 : n0 ≤ w.heap.size) (hT : Tr S s S' out) (hw : S.w.length ≤ 2048) (hlen : out.length ≤ 800) (hm : s.length ≤ 140737488351232) :
    Calls Tryd.prog 7 #[.pointer (some ⟨B, 0, none⟩), .slice (some ⟨w.heap.size, 0, none⟩) s.length cap] (Lib.bytesWorld w 5 ⟨s.toArray⟩) fun e w' => ∃ v, e = .returned (.tuple #[v, .int .i64 0]) ∧ TkO w.heap.size w' v out ∧ PsAt (fun _ => False) n0 B w' S' ∧ FeedK B w w' := by
  have hb := below_bytes w 5 ⟨s.toArray⟩
  have hsz := Lib.bytesWorld_size w 5 ⟨s.toArray⟩
  have hmd := U8Row.made w 5 s
  generalize Lib.bytesWorld w 5 ⟨s.toArray⟩ = W at hb hsz hmd ⊢
  have hP' := hP
  obtain ⟨hBn, wv, ov, an, ho, hOw, -⟩ := hP'
  have hc : w.cell? ⟨B, 0, none⟩ = some wv := ((obj_cells ho).1 0).trans rfl
  have hBl := (obj_cells ho).2.2
  have hcW : W.cell? ⟨B, 0, none⟩ = some wv := (hb.cell (p := ⟨B, 0, none⟩) hBl).trans hc
  refine (xfeed_tr n0 B w.heap.size cap s S S' out W (hP.below hb) (by omega) hT hw hlen (by omega) (by omega) (fun wv' hv e => ?_) hmd.1 hm).mono ?_
  · obtain rfl : wv' = wv := by have := hv.symm.trans hcW; simpa using this
    have := (hOw.lt _ e.symm).2
    omega
  · rintro e w' ⟨v, rfl, h1, h2, f1, f2, f3, f4, f5⟩
    refine ⟨v, rfl, h1.mono hb.size, h2, f1.trans hb.os, f2.trans hb.tape, f3.trans hb.output, Nat.le_trans hb.size f4, fun wv' hv k hk hkB hne => ?_⟩
    obtain rfl : wv' = wv := by have := hv.symm.trans hc; simpa using this
    exact (f5 wv' hcW k (by omega) hkB hne).trans (hb.block k hk)
theorem Tr.len {S S' : Ps} {s : List UInt8} {out : List Tk} (h : Tr S s S' out) : S.w.length ≤ 2048 → S'.w.length ≤ 2048 := by
  induction h with
  | nil S => exact fun h => h
  | cons h1 _ ih => exact fun _ => ih (step_len h1)
theorem tc_small (s : List UInt8) (hs : s.length ≤ 80) : ∀ tk ∈ tcL s, tk.small := by
  intro tk ht
  rw [tc_eq] at ht
  simp only [List.mem_cons, List.not_mem_nil, or_false] at ht
  rcases ht with rfl | rfl | rfl
  · refine ⟨by simp, by simp, by simp, fun p hp => ?_⟩
    rw [List.mem_singleton.1 hp]
    exact ⟨by simp, by simp only; omega⟩
  · exact ⟨by simp, by simp only; omega, by simp, fun p hp => by cases hp⟩
  · exact ⟨by simp, by simp, by simp, fun p hp => by cases hp⟩
/-- the element's parts as the law makes them -/
theorem tc_parts (s : List UInt8) (w : World) : AtS ((w.alloc (.cells #[.string ⟨#[98]⟩, .string ⟨s.toArray⟩] 39)).alloc (.cells #[.int .u8 3, .string ⟨#[]⟩, .slice none 0 0, .string ⟨s.toArray⟩] 35)) (.slice (some ⟨w.heap.size, 0, none⟩) 1 1) [([98], s)] ∧
    TkS ((w.alloc (.cells #[.string ⟨#[98]⟩, .string ⟨s.toArray⟩] 39)).alloc (.cells #[.int .u8 3, .string ⟨#[]⟩, .slice none 0 0, .string ⟨s.toArray⟩] 35)) (.slice (some ⟨w.heap.size + 1, 0, none⟩) 1 1) [⟨3, [], [], s⟩] := by
  have h1 : (w.alloc (.cells #[.string ⟨#[98]⟩, .string ⟨s.toArray⟩] 39)).ownsRow w.heap.size 39 2 (.slice (some ⟨w.heap.size, 0, none⟩) 1 1) 1 (atCells [([98], s)]) :=
    ⟨rfl, .inr ⟨w.heap.size, 1, _, rfl, Nat.le_refl _, bare_pb w _, Nat.le_refl _, by unfold maxLen; decide, rfl, rfl⟩⟩
  refine ⟨(owns_at (h1.alloc _) rfl).at, ?_⟩
  have := (tkF_new (W := w.alloc (.cells #[.string ⟨#[98]⟩, .string ⟨s.toArray⟩] 39)) (n := 0) 3 [] s (Nat.zero_le _) (atx_nil _ _) (atT_nil _ _)).tks
  rwa [World.size_alloc] at this
theorem wpList_app_runG {P : Program} (w w' : World) {ops : Array Oper} {rest : List Oper} {o : Oper} {a : Act} {Q : Exit → Act → World → Prop} (hgd : Region.wanted o (yielded ops a.tmps) = true) (s x : Operand) (t : TypeId)
    (ho : o.op = .call { callee := .builtin .append, args := #[s, x], argTypes := #[t, t] }) (v u v' : Value) (hs : a.eval s = v) (hx : a.eval x = u)
    (hrun : (Builtin.append_ #[t, t] o.type #[v, u]).run P w = .ok v' w') (h : wpList P ops Q rest (a.put o.dst v') w') : wpList P ops Q (o :: rest) a w := by
  refine wpList_step fun K hK => ?_
  rw [if_pos hgd]
  unfold Oper.wp execOp
  simp only [ho, resolve, invoke, builtin, Sem.run_bind, Sem.run_pure, Result.andThen_ok, List.map_toArray, List.map_cons, List.map_nil, hs, hx, hrun]
  exact hK _ _ h
theorem TkO.val {n : Nat} {w : World} {v : Value} {l : List Tk} (h : TkO n w v l) : ∃ a c, v = .slice a l.length c := by
  obtain ⟨ps, rfl, o, -⟩ := h
  rw [List.length_map]
  exact owns_val o
set_option maxRecDepth 100000 in
set_option maxHeartbeats 8000000 in
theorem topCarried_walk (s0 : List UInt8) (c : Int) (w : World) (hcw : (Lit.int .u8 c).wf = true) :
    Calls Tryd.prog 4 #[.string ⟨s0.toArray⟩, .int .u8 c] w fun e w' => e = .returned (.bool true) ∧ Below w.heap.size w w' := by
  have hc : 0 ≤ c ∧ c < 256 := by
    simp [Lit.wf, IntKind.min, IntKind.max, IntKind.wrap, IntKind.bits, IntKind.signed] at hcw
    omega
  replace hcw := Lib.hid hcw
  go_enter Tryd.func4, Tryd.ntmps4
  go_upto_if 16 with (fail)
  go_cut [0] (fun v0 W => v0 = .string ⟨(s0.take 80).toArray⟩ ∧ w = W)
  case first =>
    by_cases h : s0.length ≤ 80
    · have e : s0.take 80 = s0 := List.take_of_length_le h
      have h' : (s0.length : Int) ≤ 80 := by omega
      go_wp2_with fail
      go_meet
      exact ⟨by rw [e], rfl⟩
    · have h' : (80 : Int) < (s0.length : Int) := by omega
      have h'' : (80 : Int) ≤ (s0.length : Int) := by omega
      go_wp2_with fail
      go_meet
      exact ⟨rfl, rfl⟩
  obtain ⟨rfl, rfl⟩ := hcut
  have hs : (s0.take 80).length ≤ 80 := by rw [List.length_take]; omega
  generalize s0.take 80 = s at hs
  have hEl := Lib.hid (element_any [97] _ _ [([98], s)] [⟨3, [], [], s⟩] _ (tc_parts s w).1 (by simp) (tc_parts s w).2 (by simp) (fun tk ht => by rw [List.mem_singleton.1 ht]; simp))
  have hsm := tc_small s hs
  have hB0 := Lib.hid (belowT (below1 w (.cells #[.string ⟨#[98]⟩, .string ⟨s.toArray⟩] 39)) (below1 _ (.cells #[.int .u8 3, .string ⟨#[]⟩, .slice none 0 0, .string ⟨s.toArray⟩] 35)))
  cases hr : rightL (tcL s) with
  | false =>
    have hPb := Lib.hid (fun v W h => print_bad v (tcL s) W h hsm hr)
    have hRt := Lib.hid (fun v W h => hr ▸ right_full v (tcL s) W h hsm)
    replace hsm := Lib.hid hsm
    replace hr := Lib.hid hr
    go_wp2_with (first
      | (go_at_call 9; refine hEl.out.mono ?_; rintro e w1 ⟨v, rfl, hT1, hb1⟩
         obtain ⟨va, vc, hv⟩ := hT1.shape
         change v = .slice va 3 vc at hv
         subst hv
         replace hT1 : Hid (TkS w1 (.slice va 3 vc) (tcL s)) := Lib.hid hT1
         replace hb1 := Lib.hid (belowT hB0.out hb1))
      | (go_at_call 8; refine (hPb.out _ _ hT1.out).mono ?_; rintro e w2 ⟨rfl, hb2⟩
         have f2 := Lib.hid (hT1.out.below hb2)
         replace hb2 := Lib.hid (belowT hb1.out hb2))
      | (go_at_call 11; refine (hRt.out _ _ f2.out).mono ?_; rintro e w3 ⟨rfl, hb3⟩
         replace hb3 := Lib.hid (belowT hb2.out hb3)))
    go_ret
    exact ⟨rfl, hb3.out⟩
  | true =>
    have hPg := Lib.hid (fun v W h => print_good v (tcL s) W h hsm hr)
    obtain ⟨S', hTr, hop⟩ := tc_tr s hs hr
    have hlen := tc_len s hs
    replace hsm := Lib.hid hsm
    replace hr := Lib.hid hr
    generalize hPR : printR (tcL s) = t at hPg hTr hlen
    replace hPR := Lib.hid hPR
    replace hTr := Lib.hid hTr
    replace hop := Lib.hid hop
    go_upto_region 7 with (first
      | (go_at_call 9; refine hEl.out.mono ?_; rintro e w1 ⟨v, rfl, hT1, hb1⟩
         obtain ⟨va, vc, hv⟩ := hT1.shape
         change v = .slice va 3 vc at hv
         subst hv
         replace hT1 : Hid (TkS w1 (.slice va 3 vc) (tcL s)) := Lib.hid hT1
         replace hb1 := Lib.hid (belowT hB0.out hb1))
      | (go_at_call 8; refine (hPg.out _ _ hT1.out).mono ?_; rintro e w2 ⟨rfl, hb2⟩
         have f2 := Lib.hid (hT1.out.below hb2)
         replace hb2 := Lib.hid (belowT hb1.out hb2)))
    clear hEl hPg hT1 hb1
    go_cut [8] (fun v8 W => ∃ k : Nat, k ≤ t.length ∧ v8 = .int .i64 k ∧ w2 = W)
    case first =>
      have e0 : (0 : Int) ≤ c % ((t.length : Int) + 1) := Int.emod_nonneg _ (by omega)
      have e1 : c % ((t.length : Int) + 1) < (t.length : Int) + 1 := Int.emod_lt_of_pos _ (by omega)
      go_wp2_with fail
      go_meet
      exact ⟨(c % ((t.length : Int) + 1)).toNat, by omega, by rw [Int.toNat_of_nonneg e0], rfl⟩
    obtain ⟨k, hk, rfl, rfl⟩ := hcut
    have hTr2 := hTr.out
    rw [← List.take_append_drop k t] at hTr2
    obtain ⟨S1, o1, o2, hT1, hT2, hoe⟩ := hTr2.app
    have hw1 : S1.w.length ≤ 2048 := hT1.len (by simp)
    have hl3 : o1.length + o2.length = 3 := by have := congrArg List.length hoe; rw [List.length_append] at this; exact this.symm
    have hz1 : (ByteArray.mk (t.take k).toArray).size = (t.take k).length := by simp [ByteArray.size]
    have hz2 : (ByteArray.mk (t.drop k).toArray).size = (t.drop k).length := by simp [ByteArray.size]
    have hL1 : (t.take k).length ≤ 3000 := by rw [List.length_take]; omega
    have hL2 : (t.drop k).length ≤ 3000 := by rw [List.length_drop]; omega
    have hk1 : (k : Int) ≤ (t.length : Int) := by omega
    have hk0 : (0 : Int) ≤ (k : Int) := by omega
    replace hoe := Lib.hid hoe
    replace hT1 := Lib.hid hT1
    replace hT2 := Lib.hid hT2
    replace hl3 := Lib.hid hl3
    clear hTr2
    generalize ht1 : t.take k = t1 at hT1 hz1 hL1
    generalize ht2 : t.drop k = t2 at hT2 hz2 hL2
    have hSm : Hid (sameL (tcL s) (tcL s) = true) := Lib.hid (sameL_refl _)
    go_wp2_with (first
      | (go_at_call 6; refine (xnew_any _).mono ?_; rintro e w4 ⟨rfl, hw4⟩
         have hP4 : PsAt (fun _ => False) (w2.heap.size + 1) w2.heap.size w4 ⟨[], 0, [], false⟩ := by rw [hw4]; exact new_ps w2
         have hb4 : Below w2.heap.size w2 w4 := by rw [hw4]; exact below1 _ _
         have hs4 : w4.heap.size = w2.heap.size + 1 := by rw [hw4, World.size_alloc]
         clear hw4
         have hcI := Lib.run_convert_string_bytes (P := Tryd.prog) w4 9 22 5 ⟨t1.toArray⟩ Tryd.underlying9 Tryd.underlying22 Tryd.underlying5
         have hF1 := fun cap => xfeed_bytes (w2.heap.size + 1) w2.heap.size cap t1 _ S1 o1 w4 hP4 (by omega) hT1.out (by simp) (by have := hl3.out; omega) (by omega)
         rw [hz1] at hcI
         generalize Lib.bytesWorld w4 5 ⟨t1.toArray⟩ = W5 at hcI hF1
         generalize grownCap w4 t1.length 0 5 = cap1 at hcI
         replace hF1 := Lib.hid hF1
         replace hP4 := Lib.hid hP4
         replace hb4 := Lib.hid hb4
         replace hs4 := Lib.hid hs4
         have tok1 := Lib.hid True.intro)
      | (have m0 := tok2; go_at_call 7; refine (hF2.out _).mono ?_; rintro e w8 ⟨v2, rfl, hK2, hP8, hf8⟩
         obtain ⟨va2, vc2, rfl⟩ := hK2.val
         have hs4' := hs4.out
         have hs6 := hf6.out.2.2.2.1
         have hs8 := hf8.2.2.2.1
         have hK18 := hK1.out.feed hP6.out (by omega) hf8
         obtain ⟨v9, w9, hr9, hK9, hg9, -⟩ := tk_append w8 w4.heap.size w6.heap.size _ _ o1 o2 hK18 hK2 hs6 (fun r hr => (tkO_row hK1.out r hr).2) (by have := hl3.out; omega) (by omega)
         rw [← hoe.out] at hK9
         obtain ⟨va9, vc9, hv9⟩ := hK9.val
         change v9 = .slice va9 3 vc9 at hv9
         subst hv9
         have hb24 := hb4.out
         have hb6 := hf6.out.below hb24 hP4.out (Nat.le_refl _) (by omega)
         have hb8 := hf8.below hb6 hP6.out (Nat.le_refl _) (by omega)
         have hb9 : Below w2.heap.size w2 w9 := hb8.grown hg9 (by omega) (fun r hr => by have := (tkO_row hK18 r hr).1; omega)
         have hP9 := hP8.row hK18 hg9
         have f9 := f2.out.below hb9
         have hSa := same_any _ _ (tcL s) (tcL s) w9 hK9.tks f9
         rw [hSm.out] at hSa
         replace hSa := Lib.hid hSa
         replace hb9 := Lib.hid (belowT hb2.out hb9)
         have hDp : Hid (∀ W, Below w9.heap.size w9 W → Calls Tryd.prog 10 #[.pointer (some ⟨w2.heap.size, 0, none⟩)] W fun e w' => e = .returned (.int .i64 0) ∧ W = w') := Lib.hid fun W hb => by
           have := xdepth_any _ _ _ W (hP9.below hb)
           rw [hop.out] at this; exact this
         clear hs4' hs6 hs8 hK18 hg9 hb24 hb6 hb8 hP9 f9 hK2 hP8 hf8 hK9
         replace hr9 := Lib.hid hr9)
      | (have m0 := tok1.out; go_at_call 7; refine (hF1.out _).mono ?_; rintro e w6 ⟨v1, rfl, hK1, hP6, hf6⟩
         obtain ⟨va1, vc1, rfl⟩ := hK1.val
         have hcII := Lib.run_convert_string_bytes (P := Tryd.prog) w6 9 22 5 ⟨t2.toArray⟩ Tryd.underlying9 Tryd.underlying22 Tryd.underlying5
         have hs6 := hf6.2.2.2.1
         have hF2 := fun cap => xfeed_bytes (w2.heap.size + 1) w2.heap.size cap t2 _ S' o2 w6 hP6 (by have := hs4.out; omega) hT2.out hw1 (by have := hl3.out; omega) (by omega)
         rw [hz2] at hcII
         generalize Lib.bytesWorld w6 5 ⟨t2.toArray⟩ = W7 at hcII hF2
         generalize grownCap w6 t2.length 0 5 = cap2 at hcII
         replace hF2 := Lib.hid hF2
         replace hP6 := Lib.hid hP6
         replace hf6 := Lib.hid hf6
         replace hK1 := Lib.hid hK1
         clear tok1 hs6
         have tok2 := True.intro)
      | (at_builtin; refine wpList_app_runG _ w9 (by first | rfl | simp [Region.wanted, yielded, go_sem]) _ _ 25 rfl _ _ _ rfl rfl hr9.out ?_)
      | (go_at_call 12; refine hSa.out.mono ?_; rintro e w10 ⟨rfl, hb10⟩; replace hb10 := Lib.hid hb10)
      | (go_at_call 10; refine (hDp.out _ hb10.out).mono ?_; rintro e w11 ⟨rfl, rfl⟩))
    go_ret
    exact ⟨rfl, belowT hb9.out hb10.out⟩
end Go.Proofs.YtjpdadibeocpfaaDoor
