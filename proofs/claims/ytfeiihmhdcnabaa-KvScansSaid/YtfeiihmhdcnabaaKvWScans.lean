/-
  The walk of KvScans.
-/
import Derived.Test.YtfeiihmhdcnabaaKvSame
import Derived.Deep.QuietTactic
namespace Go.Proofs.Ytfeiihmhdcnabaa
set_option linter.unusedVariables false
set_option linter.unusedSimpArgs false
open Go.RowKit Go.MapKept
theorem ixp_prev (b o N cap k : Nat) (w : World) (h0 : 1 ≤ k) (hk : k ≤ N) : (Instr.indexAt 36 (.slice (some ⟨b, o, none⟩) N cap) (.int .i64 ((k : Int) - 1))).run Try.prog w = .ok (.pointer (some ⟨b, o + (k - 1) * 2, none⟩)) w := by
  have e : (k : Int) - 1 = ((k - 1 : Nat) : Int) := by omega
  have h1 : (0 : Int) ≤ ((k - 1 : Nat) : Int) := by omega
  have h2 : ((k - 1 : Nat) : Int) < (N : Int) := by omega
  rw [e]
  generalize k - 1 = j at *
  have h3 : j < N := by omega
  simp [go_sem, h1, h2, h3]
theorem geq_runK (a b : Txt) (W : World) : (binOp .geq 9 (.string ⟨a.toArray⟩) (.string ⟨b.toArray⟩)).run Try.prog W = .ok (.bool (!decide (a < b))) W := by
  have h : (decide (b < a) || a == b) = !decide (a < b) := by
    rcases tl_tri a b with h | h | h
    · have h1 : ¬ b < a := fun h' => tl_irrefl a (tl_trans h h')
      have h2 : ¬ a = b := fun e => tl_irrefl b (e ▸ h)
      simp [h, h1, h2]
    · subst h
      simp [tl_irrefl a]
    · have h1 : ¬ a < b := fun h' => tl_irrefl a (tl_trans h' h)
      simp [h, h1]
  simp [binOp, Op.stringOp, bytesLess_eq, Lib.toList_data, h]
theorem scan_take {E : Ats} {p : Txt} {k : Nat} (h : k < E.length) (hq : p.isPrefixOf (E[k]'h).1 = true) : (scanE E p)[(scanE (E.take k) p).length]? = some (E[k]'h) := by
  have e1 : E = E.take k ++ E[k]'h :: E.drop (k + 1) := by
    rw [← List.drop_eq_getElem_cons h, List.take_append_drop]
  have e2 : scanE E p = scanE (E.take k) p ++ (E[k]'h) :: scanE (E.drop (k + 1)) p := by
    conv => lhs; rw [e1]
    unfold scanE
    rw [List.filter_append, List.filter_cons_of_pos (by exact hq)]
  rw [e2]
  simp
set_option maxRecDepth 100000 in
set_option maxHeartbeats 4000000 in
theorem kvScans_walk (v : Value) (l : List Dd) (p : Txt) (w : World) (h : DdS w v l) (hB : DdB l) :
    Calls Try.prog 5 #[v, .string ⟨p.toArray⟩] w fun e w' => e = .returned (.bool true) ∧ Below w.heap.size w w' := by
  have hP := Lib.hid (play_any v l w h hB)
  have hL := Lib.hid live_kv
  have hok := ok_play (l.take 60)
  generalize playE [] (l.take 60) = E at hP hok
  obtain ⟨va, vn, vc, rfl⟩ : ∃ a n c, v = .slice a n c := by obtain ⟨a, c, h, -⟩ := h; exact ⟨a, _, c, h⟩
  clear h hB
  have hSc : Hid (∀ g b W, KvS W g b E → Calls Try.prog 18 #[.pointer (some ⟨g, 0, none⟩), .string ⟨#[]⟩] W fun e w' => ∃ sv, e = .returned sv ∧ AtS w' sv E ∧ Below W.heap.size W w') := Lib.hid fun g b W h => by
    have := scan_any g b E [] W h
    rw [scan_all] at this
    exact this
  have hScp := Lib.hid (fun g b W (h : KvS W g b E) => scan_any g b E p W h)
  have hLen := Lib.hid (fun g b W (h : KvS W g b E) => (kvLen_any g b E W h).mono (fun e w' h => (⟨h.1, h.2.symm⟩ : _ ∧ W = w')))
  have hE1 : E.length ≤ 128 := hok.2.1
  have hM1 : (scanE E p).length ≤ E.length := List.length_filter_le _ _
  obtain ⟨N, hN⟩ : ∃ N, E.length = N := ⟨_, rfl⟩
  obtain ⟨M, hM⟩ : ∃ M, (scanE E p).length = M := ⟨_, rfl⟩
  rw [hM] at hM1
  rw [hN] at hE1 hM1
  have hcnt : Hid (∀ k, (scanE (E.take k) p).length ≤ k) := Lib.hid fun k => Nat.le_trans (List.length_filter_le _ _) (by rw [List.length_take]; exact Nat.min_le_left _ _)
  replace hN := Lib.hid hN
  replace hM := Lib.hid hM
  replace hok := Lib.hid hok
  go_enter Try.func5, Try.ntmps5
  go_wp2_with (first
    | (have m0 := hb3; go_at_call 18; refine (hScp.out _ _ _ hBo3.out.kv).mono ?_; rintro e w4 ⟨v4, rfl, hA4, hbn⟩; have hA3' := Lib.hid (hA3.out.below hbn); have hBo4 := Lib.hid (hBo3.out.below hbn); have hb4 := Lib.hid (belowT hb3.out hbn); obtain ⟨p4, c4, rfl, -, -, hat4⟩ := hA4; clear hbn)
    | (have m0 := hb2; go_at_call 18; refine (hSc.out _ _ _ hBo2.out.kv).mono ?_; rintro e w3 ⟨v3, rfl, hA3, hbn⟩; obtain ⟨p3, c3, rfl⟩ : ∃ a c, v3 = .slice a E.length c := (by obtain ⟨a, c, h, -⟩ := hA3; exact ⟨a, c, h⟩); replace hA3 := Lib.hid hA3; have hBo3 := Lib.hid (hBo2.out.below hbn); have hb3 := Lib.hid (belowT hb2.out hbn); clear hbn)
    | (have m0 := hb1; go_at_call 14; refine (hL.out _).mono ?_; rintro e w2 ⟨rfl, hbn⟩; have hBo2 := Lib.hid (hBo.out.below hbn); have hb2 := Lib.hid (belowT hb1.out hbn); clear hbn)
    | (go_at_call 16; refine hP.out.mono ?_; rintro e w1 ⟨g, b, gr, rfl, hBo, hb1⟩; replace hBo := Lib.hid hBo; replace hb1 := Lib.hid hb1))
  have hat3 : Hid (0 < E.length → ∃ b o, p3 = some ⟨b, o, none⟩ ∧ b < w4.heap.size ∧ ∀ i (h : i < E.length), w4.cell? ⟨b, o + i * 2, none⟩ = some (.string ⟨(E[i]'h).1.toArray⟩) ∧ w4.cell? ⟨b, o + i * 2 + 1, none⟩ = some (.string ⟨(E[i]'h).2.toArray⟩)) := Lib.hid (by
    obtain ⟨p', c', e, -, -, hh⟩ := hA3'.out
    obtain ⟨rfl, -, -⟩ := Value.slice.inj e
    exact hh)
  replace hat4 := Lib.hid hat4
  rw [hN.out, hM.out]
  clear hA3 hA3' hBo hBo2 hBo3 hb1 hb2 hb3 hP hSc hScp
  go_loopw [10, 11] (fun s10 s11 wr => ∃ k : Nat, k ≤ N ∧ s10 = .int .i64 ((scanE (E.take k) p).length : Nat) ∧ s11 = .int .i64 k ∧ Hid (Below w4.heap.size w4 wr)) (fun _ s11 _ => N - (intOf s11).toNat)
  case atStart => exact ⟨0, Nat.zero_le _, rfl, rfl, Lib.hid (Below.refl _ _)⟩
  case round =>
    obtain ⟨k, hk, rfl, rfl, hW⟩ := hrel
    have hk0 : (0 : Int) ≤ (k : Int) := by omega
    have hBw := Lib.hid (hBo4.out.below hW.out)
    have hbw4 := Lib.hid (belowT hb4.out hW.out)
    by_cases hlt : k < N
    · have hki : (k : Int) < (N : Int) := by omega
      have hk3 : k < E.length := by have := hN.out; omega
      obtain ⟨pb, o, rfl, hb, hcc⟩ := hat3.out (by omega)
      obtain ⟨d0, d1⟩ := hcc k hk3
      have kc := fun (j : Nat) => hW.out.cell (p := ⟨pb, j, none⟩) hb
      replace d0 := (kc _).trans d0
      replace d1 := (kc _).trans d1
      have hbw : pb < wr.heap.size := Nat.lt_of_lt_of_le hb hW.out.size
      have hprev : Hid (0 < k → ∃ pk : Txt, wr.cell? ⟨pb, o + (k - 1) * 2, none⟩ = some (.string ⟨pk.toArray⟩) ∧ pk < (E[k]'hk3).1) := Lib.hid fun h0 => by
        have hk4 : k - 1 < E.length := by omega
        refine ⟨(E[k - 1]'hk4).1, (kc _).trans (hcc (k - 1) hk4).1, ?_⟩
        exact (List.pairwise_iff_getElem.1 hok.out.1) (k - 1) k hk4 hk3 (by omega)
      have hsn := scan_snoc' (p := p) hk3
      have hst := scan_take (p := p) hk3
      have hcn := hcnt.out k
      have hmem := List.getElem_mem hk3
      have hpar := par_of hok.out.1 (x := (E[k]'hk3).1) (p := (E[k]'hk3).2) (by exact hmem)
      have hokx := hok.out.2.2 _ hmem
      have hGt : ∀ W, KvS W g b E → _ := fun W h => (get_any g b E (E[k]'hk3).1 W h (by have := hokx.2.1; omega)).mono (fun e w' h => (⟨h.1, h.2.symm⟩ : _ ∧ W = w'))
      rw [hpar] at hGt
      clear hmem hpar hcc
      generalize hE : E[k] = x at d0 d1 hsn hst hokx hGt hprev
      obtain ⟨ck, cv⟩ := x
      simp only at d0 d1 hsn hst hokx hGt hprev
      obtain ⟨-, hl1, hl2⟩ := hokx
      simp only at hl1 hl2
      obtain ⟨C, hC⟩ : ∃ C, (scanE (E.take k) p).length = C := ⟨_, rfl⟩
      rw [hC] at hst hcn ⊢
      have hsn2 : (scanE (E.take (k + 1)) p).length = C + if p.isPrefixOf ck then 1 else 0 := by
        rw [hsn, List.length_append, hC]
        split <;> rfl
      clear hsn kc
      replace hE := Lib.hid hE
      replace hC := Lib.hid hC
      replace hGt := Lib.hid hGt
      by_cases hkz : 0 < k
      · obtain ⟨pk, pd, hplt⟩ := hprev.out hkz
        have h0n : 0 < k := hkz
        have h0i : (0 : Int) < (k : Int) := by omega
        have h0d : decide (0 < k) = true := by simp; omega
        have p1 : IntKind.i64.wrap ((k : Int) - 1) = (k : Int) - 1 := wrap_small _ (by omega) (by omega)
        have p6 : 1 ≤ k := by omega
        have hix := fun W : World => ixp_prev pb o N c3 k W p6 hk
        have hgq := geq_runK pk ck
        rw [decide_eq_true hplt] at hgq
        have hbl : Op.bytesLess pk ck = true := by rw [bytesLess_eq]; exact decide_eq_true hplt
        clear hprev hplt
        by_cases hln : p.length ≤ ck.length
        · cases hq : p.isPrefixOf ck with
          | true =>
            have hqq : p.isPrefixOf ck = true := hq
            have hlen : p.length ≤ ck.length := hln
            have hleni : (p.length : Int) ≤ (ck.length : Int) := by omega
            have htp := take_prefix hlen
            have hex := ext0 ck p.length
            rw [hqq] at htp hsn2
            rw [if_pos rfl] at hsn2
            have hg4 := hst hqq
            obtain ⟨hCM, hge⟩ := List.getElem?_eq_some_iff.1 hg4
            obtain ⟨pb4, o4, rfl, hbb4, hcc4⟩ := hat4.out (by omega)
            obtain ⟨f0, f1⟩ := hcc4 C hCM
            rw [hge] at f0 f1
            have kc4 := fun (j : Nat) => hW.out.cell (p := ⟨pb4, j, none⟩) hbb4
            replace f0 := (kc4 _).trans f0
            replace f1 := (kc4 _).trans f1
            have hbw2 : pb4 < wr.heap.size := Nat.lt_of_lt_of_le hbb4 hW.out.size
            have hCMi : (C : Int) < (M : Int) := by have := hM.out; omega
            have hCMn : ¬ (M : Int) ≤ (C : Int) := by omega
            have hCMd : decide (M ≤ C) = false := by simp; omega
            have hCMm : ¬ M ≤ C := by omega
            have hCMl : C < M := by omega
            have hC0 : (0 : Int) ≤ (C : Int) := by omega
            have hnq := neqP_run ck cv ck cv
            rw [decide_eq_true rfl] at hnq
            clear hst hg4 hge hcc4 kc4
            replace hqq := Lib.hid hqq
            replace hq := Lib.hid hq
            replace hCM := Lib.hid hCM
            replace hsn2 := Lib.hid hsn2
            go_wp2_with fail
            go_quiet (fail)
            go_wp2_with fail
            go_big_quiet (fail)
            go_wp2_with (go_at_call 19; refine (hGt.out _ (by exact hBw.out.kv)).mono ?_; rintro e w6 ⟨rfl, rfl⟩)
            go_roundw
            case rel => exact ⟨k + 1, by omega, by rw [hsn2.out]; try simp, by simp, Lib.hid (by first | exact belowN hW.out _ | exact belowN (belowN hW.out _) _)⟩
            case measure => simp [intOf]; omega
          | false =>
            have hlen : p.length ≤ ck.length := hln
            have hleni : (p.length : Int) ≤ (ck.length : Int) := by omega
            have htp := take_prefix hlen
            have hex := ext0 ck p.length
            rw [hq] at htp hsn2
            rw [if_neg (by simp), Nat.add_zero] at hsn2
            clear hst
            replace hq := Lib.hid hq
            replace hsn2 := Lib.hid hsn2
            go_wp2_with fail
            go_quiet (fail)
            go_wp2_with (go_at_call 19; refine (hGt.out _ (by exact hBw.out.kv)).mono ?_; rintro e w6 ⟨rfl, rfl⟩)
            go_roundw
            case rel => exact ⟨k + 1, by omega, by rw [hsn2.out]; try simp, by simp, Lib.hid (by first | exact belowN hW.out _ | exact belowN (belowN hW.out _) _)⟩
            case measure => simp [intOf]; omega
        · skip
          have hleni : ¬ (p.length : Int) ≤ (ck.length : Int) := by omega
          rw [short_prefix hln, if_neg (by simp), Nat.add_zero] at hsn2
          clear hst
          replace hsn2 := Lib.hid hsn2
          go_wp2_with fail
          go_quiet (fail)
          go_wp2_with (go_at_call 19; refine (hGt.out _ (by exact hBw.out.kv)).mono ?_; rintro e w6 ⟨rfl, rfl⟩)
          go_roundw
          case rel => exact ⟨k + 1, by omega, by rw [hsn2.out]; try simp, by simp, Lib.hid (by first | exact belowN hW.out _ | exact belowN (belowN hW.out _) _)⟩
          case measure => simp [intOf]; omega
      · have h0i : ¬ (0 : Int) < (k : Int) := by omega
        have h0d : decide (0 < k) = false := by simp; omega
        clear hprev
        by_cases hln : p.length ≤ ck.length
        · cases hq : p.isPrefixOf ck with
          | true =>
            have hqq : p.isPrefixOf ck = true := hq
            have hlen : p.length ≤ ck.length := hln
            have hleni : (p.length : Int) ≤ (ck.length : Int) := by omega
            have htp := take_prefix hlen
            have hex := ext0 ck p.length
            rw [hqq] at htp hsn2
            rw [if_pos rfl] at hsn2
            have hg4 := hst hqq
            obtain ⟨hCM, hge⟩ := List.getElem?_eq_some_iff.1 hg4
            obtain ⟨pb4, o4, rfl, hbb4, hcc4⟩ := hat4.out (by omega)
            obtain ⟨f0, f1⟩ := hcc4 C hCM
            rw [hge] at f0 f1
            have kc4 := fun (j : Nat) => hW.out.cell (p := ⟨pb4, j, none⟩) hbb4
            replace f0 := (kc4 _).trans f0
            replace f1 := (kc4 _).trans f1
            have hbw2 : pb4 < wr.heap.size := Nat.lt_of_lt_of_le hbb4 hW.out.size
            have hCMi : (C : Int) < (M : Int) := by have := hM.out; omega
            have hCMn : ¬ (M : Int) ≤ (C : Int) := by omega
            have hCMd : decide (M ≤ C) = false := by simp; omega
            have hCMm : ¬ M ≤ C := by omega
            have hCMl : C < M := by omega
            have hC0 : (0 : Int) ≤ (C : Int) := by omega
            have hnq := neqP_run ck cv ck cv
            rw [decide_eq_true rfl] at hnq
            clear hst hg4 hge hcc4 kc4
            replace hqq := Lib.hid hqq
            replace hq := Lib.hid hq
            replace hCM := Lib.hid hCM
            replace hsn2 := Lib.hid hsn2
            go_wp2_with fail
            go_quiet (fail)
            go_wp2_with fail
            go_big_quiet (fail)
            go_wp2_with (go_at_call 19; refine (hGt.out _ (by exact hBw.out.kv)).mono ?_; rintro e w6 ⟨rfl, rfl⟩)
            go_roundw
            case rel => exact ⟨k + 1, by omega, by rw [hsn2.out]; try simp, by simp, Lib.hid (by first | exact belowN hW.out _ | exact belowN (belowN hW.out _) _)⟩
            case measure => simp [intOf]; omega
          | false =>
            have hlen : p.length ≤ ck.length := hln
            have hleni : (p.length : Int) ≤ (ck.length : Int) := by omega
            have htp := take_prefix hlen
            have hex := ext0 ck p.length
            rw [hq] at htp hsn2
            rw [if_neg (by simp), Nat.add_zero] at hsn2
            clear hst
            replace hq := Lib.hid hq
            replace hsn2 := Lib.hid hsn2
            go_wp2_with fail
            go_quiet (fail)
            go_wp2_with (go_at_call 19; refine (hGt.out _ (by exact hBw.out.kv)).mono ?_; rintro e w6 ⟨rfl, rfl⟩)
            go_roundw
            case rel => exact ⟨k + 1, by omega, by rw [hsn2.out]; try simp, by simp, Lib.hid (by first | exact belowN hW.out _ | exact belowN (belowN hW.out _) _)⟩
            case measure => simp [intOf]; omega
        · skip
          have hleni : ¬ (p.length : Int) ≤ (ck.length : Int) := by omega
          rw [short_prefix hln, if_neg (by simp), Nat.add_zero] at hsn2
          clear hst
          replace hsn2 := Lib.hid hsn2
          go_wp2_with fail
          go_quiet (fail)
          go_wp2_with (go_at_call 19; refine (hGt.out _ (by exact hBw.out.kv)).mono ?_; rintro e w6 ⟨rfl, rfl⟩)
          go_roundw
          case rel => exact ⟨k + 1, by omega, by rw [hsn2.out]; try simp, by simp, Lib.hid (by first | exact belowN hW.out _ | exact belowN (belowN hW.out _) _)⟩
          case measure => simp [intOf]; omega
    · obtain rfl : k = N := by omega
      have hki : ¬ (k : Int) < (k : Int) := by omega
      have e4 : E.take k = E := List.take_of_length_le (by have := hN.out; omega)
      rw [e4, hM.out]
      have hLn := hLen.out g b wr hBw.out.kv
      rw [hN.out] at hLn
      replace hLn := Lib.hid hLn
      go_wp2_with (go_at_call 15; refine hLn.out.mono ?_; rintro e w5 ⟨rfl, rfl⟩)
      go_ret
      exact ⟨by simp, hbw4.out⟩
end Go.Proofs.Ytfeiihmhdcnabaa
