/-
  The walk of KvCuts.
-/
import Derived.Test.YtfeiihmhdcnabaaKvWLoads
import Derived.Test.YtfeiihmhdcnabaaKvCutP
namespace Go.Proofs.Ytfeiihmhdcnabaa
set_option linter.unusedVariables false
set_option linter.unusedSimpArgs false
open Go.RowKit Go.MapKept
theorem wf16 {a : Int} (h : (Lit.int .u16 a).wf = true) : 0 ≤ a ∧ a < 65536 := by
  simp [Lit.wf, IntKind.min, IntKind.max, IntKind.wrap, IntKind.bits, IntKind.signed] at h
  omega
theorem slice_up (p : Option Addr) (n c j : Nat) (h1 : j ≤ c) (W : World) : (Instr.slice 26 (.slice p n c) none (some (.int .i64 (j : Int))) none).run Try.prog W = .ok (.slice p j c) W := by
  have h4 : (j : Int) ≤ (c : Int) := by omega
  simp [go_sem, h4, h1]
set_option maxRecDepth 100000 in
set_option maxHeartbeats 4000000 in
theorem kvCuts_walk (v : Value) (l : List Dd) (n0 : Int) (w : World) (h : DdS w v l) (hB : DdB l) (hn0 : (Lit.int .u16 n0).wf = true) :
    Calls Try.prog 11 #[v, .int .u16 n0] w fun e w' => e = .returned (.bool true) ∧ Below w.heap.size w w' := by
  obtain ⟨n, rfl⟩ : ∃ n : Nat, n0 = n := ⟨n0.toNat, by have := wf16 hn0; omega⟩
  have hn : n < 65536 := by have := wf16 hn0; omega
  clear hn0
  have hP := Lib.hid (play_any v l w h hB)
  have hL := Lib.hid live_kv
  have hok := ok_play (l.take 60)
  generalize playE [] (l.take 60) = E at hP hok
  obtain ⟨va, vn, vc, rfl⟩ : ∃ a n c, v = .slice a n c := by obtain ⟨a, c, h, -⟩ := h; exact ⟨a, _, c, h⟩
  clear h hB
  obtain ⟨L, hLL⟩ : ∃ L, (bytesE E).length = L := ⟨_, rfl⟩
  have hL6 : L ≤ 600000 := by rw [← hLL]; exact Nat.le_trans (bytes_le hok.2.2) (by have := hok.2.1; omega)
  have hBy : Hid (∀ g b W, KvS W g b E → Calls Try.prog 23 #[.pointer (some ⟨g, 0, none⟩)] W fun e w' => ∃ p c, e = .returned (.slice p L c) ∧ BySl w' (.slice p L c) (bytesE E) ∧ L ≤ c ∧ Below W.heap.size W w') := Lib.hid fun g b W h => (bytesC g b E W h).mono fun e w' ⟨sv, h1, _, h2, h3⟩ => by
    have h2' := h2
    obtain ⟨p, c, e1, h4, -⟩ := h2'
    rw [hLL] at e1 h4
    subst e1
    exact ⟨p, c, h1, h2, h4, h3⟩
  by_cases hE0 : L = 0
  · have hEn : E = [] := by
      cases E with
      | nil => rfl
      | cons x r =>
        exfalso
        rw [bytes_cons, List.length_append, pairB_len] at hLL
        omega
    subst hEn
    subst hE0
    clear hok hLL hL6
    go_enter Try.func11, Try.ntmps11
    go_wp2_with (first
      | (have m0 := hb3; go_at_call 15; refine (kvLen_any _ _ _ _ hBo3.out.kv).mono ?_; rintro e w4 ⟨rfl, hw4⟩; have hb4 : Hid (Below w.heap.size w w4) := Lib.hid (by rw [hw4]; exact hb3.out))
      | (have m0 := hb2; go_at_call 23; refine (hBy.out _ _ _ hBo2.out.kv).mono ?_; rintro e w3 ⟨p3, c3, rfl, -, -, hbn⟩; have hBo3 := Lib.hid (hBo2.out.below hbn); have hb3 := Lib.hid (belowT hb2.out hbn); clear hbn)
      | (have m0 := hb1; go_at_call 14; refine (hL.out _).mono ?_; rintro e w2 ⟨rfl, hbn⟩; have hBo2 := Lib.hid (hBo.out.below hbn); have hb2 := Lib.hid (belowT hb1.out hbn); clear hbn)
      | (go_at_call 16; refine hP.out.mono ?_; rintro e w1 ⟨g, b, gr, rfl, hBo, hb1⟩; replace hBo := Lib.hid hBo; replace hb1 := Lib.hid hb1))
    go_ret
    exact ⟨by simp, hb3.out⟩
  · have hLp : 0 < L := by omega
    have hEl : ¬ ((L : Int) = 0) := by omega
    obtain ⟨t, ht⟩ : ∃ t, n % L = t := ⟨_, rfl⟩
    have htL : t < L := by rw [← ht]; exact Nat.mod_lt _ hLp
    have hmod : ((n : Int)).tmod (L : Int) = (t : Int) := by rw [← ht]; exact (Int.ofNat_tmod n L).symm
    have hcut := cut_iff hok (t := t) (by rw [hLL]; exact htL)
    have hfin : blE E E.length = L := by unfold blE; rw [List.take_length, hLL]
    have hblk : ∀ k, blE E k ≤ 600000 := fun k => by
      have h1 : blE E k ≤ 4163 * (E.take k).length := bytes_le (fun e he => hok.2.2 e (List.mem_of_mem_take he))
      have h2 : (E.take k).length ≤ 128 := (ok_take hok k).2.1
      omega
    have hxl : Hid (∀ e ∈ E, e.1.length ≤ 64 ∧ e.2.length ≤ 4096) := Lib.hid fun e he => ⟨(hok.2.2 e he).2.1, (hok.2.2 e he).2.2⟩
    have hsc : Hid (∀ g b W, KvS W g b E → Calls Try.prog 18 #[.pointer (some ⟨g, 0, none⟩), .string ⟨#[]⟩] W fun e w' => ∃ sv, e = .returned sv ∧ AtS w' sv E ∧ Below W.heap.size W w') := Lib.hid fun g b W h => by
      have := scan_any g b E [] W h
      rw [scan_all] at this
      exact this
    have hLo : Hid (∀ p c W, BySl W (.slice p L c) (bytesE E) → Calls Try.prog 21 #[.slice p t c] W (KvLoadOut (loadE ((bytesE E).take t)) W)) := Lib.hid fun p c W h =>
      kvLoad_any _ _ W (h.pre (by omega)) (by rw [List.length_take]; omega)
    generalize loadE ((bytesE E).take t) = R at hcut hLo
    obtain ⟨N, hN⟩ : ∃ N, E.length = N := ⟨_, rfl⟩
    have hN1 : N ≤ 128 := by rw [← hN]; exact hok.2.1
    rw [hN] at hcut hfin
    replace hN := Lib.hid hN
    replace hok := Lib.hid hok
    replace hblk := Lib.hid hblk
    replace hcut := Lib.hid hcut
    replace hfin := Lib.hid hfin
    replace hLL := Lib.hid hLL
    replace ht := Lib.hid ht
    go_enter Try.func11, Try.ntmps11
    go_wp2_with (first
      | (have m0 := hb3; go_at_call 18; refine (hsc.out _ _ _ hBo3.out.kv).mono ?_; rintro e w4 ⟨v4, rfl, hA4, hbn⟩; obtain ⟨p4, c4, rfl, -, -, hat⟩ := hA4; have hb4 := Lib.hid (belowT hb3.out hbn); have hS4 := Lib.hid (hS3.out.below hbn); clear hbn)
      | (have m0 := hb2; go_at_call 23; refine (hBy.out _ _ _ hBo2.out.kv).mono ?_; rintro e w3 ⟨p3, c3, rfl, hS3, hc3, hbn⟩; replace hS3 := Lib.hid hS3; have hsl := slice_up p3 L c3 t (by omega); have hBo3 := Lib.hid (hBo2.out.below hbn); have hb3 := Lib.hid (belowT hb2.out hbn); clear hbn)
      | (have m0 := hb1; go_at_call 14; refine (hL.out _).mono ?_; rintro e w2 ⟨rfl, hbn⟩; have hBo2 := Lib.hid (hBo.out.below hbn); have hb2 := Lib.hid (belowT hb1.out hbn); clear hbn)
      | (go_at_call 16; refine hP.out.mono ?_; rintro e w1 ⟨g, b, gr, rfl, hBo, hb1⟩; replace hBo := Lib.hid hBo; replace hb1 := Lib.hid hb1))
    rw [hN.out]
    replace hat := Lib.hid hat
    go_loopw [10, 11, 13] (fun s10 s11 s13 wr => ∃ k : Nat, k ≤ N ∧ s10 = .bool (btw E t k) ∧ s11 = .int .i64 (blE E k) ∧ s13 = .int .i64 k ∧ Hid (Below w4.heap.size w4 wr)) (fun _ _ s13 _ => N - (intOf s13).toNat)
    case atStart => exact ⟨0, Nat.zero_le _, rfl, rfl, rfl, Lib.hid (Below.refl _ _)⟩
    case round =>
      obtain ⟨k, hk, rfl, rfl, rfl, hW⟩ := hrel
      have hk0 : (0 : Int) ≤ (k : Int) := by omega
      have hkb := hblk.out k
      by_cases hlt : k < N
      · have hki : (k : Int) < (N : Int) := by omega
        have hk3 : k < E.length := by have := hN.out; omega
        obtain ⟨pb, o, rfl, hb, hcc⟩ := hat.out (by have := hN.out; omega)
        obtain ⟨d0, d1⟩ := hcc k hk3
        have kc := fun (j : Nat) => hW.out.cell (p := ⟨pb, j, none⟩) hb
        replace d0 := (kc _).trans d0
        replace d1 := (kc _).trans d1
        have hbs := bl_succ hk3
        have hts := btw_succ E t k
        have hx := hxl.out _ (List.getElem_mem hk3)
        clear hcc kc
        generalize hE : E[k] = x at d0 d1 hbs hx
        obtain ⟨xc, xv⟩ := x
        simp only at d0 d1 hbs hx
        obtain ⟨hx1, hx2⟩ := hx
        have hbw : pb < wr.heap.size := Nat.lt_of_lt_of_le hb hW.out.size
        replace hE := Lib.hid hE
        have hrel : ∀ nq, Below w4.heap.size w4 (wr.drewN nq) := fun nq => belowN hW.out nq
        replace hrel := Lib.hid hrel
        obtain ⟨B, hBB⟩ : ∃ B, blE E k = B := ⟨_, rfl⟩
        rw [hBB] at hkb hbs hts ⊢
        have hbs' : (blE E (k + 1) : Int) = (B : Int) + (3 + (xc.length : Int) + (xv.length : Int)) := by rw [hbs]; omega
        replace hbs := Lib.hid hbs
        replace hbs' := Lib.hid hbs'
        replace hBB := Lib.hid hBB
        by_cases hBt : B = t
        · have hBi : ((B : Int) == (t : Int)) = true := by simp [hBt]
          have hbt : (B == t) = true := by simp [hBt]
          rw [hbt, Bool.or_true] at hts
          replace hts := Lib.hid hts
          replace hBt := Lib.hid hBt
          cases hq : btw E t k with
          | true =>
            go_wp2_with fail
            go_quiet (fail)
            go_wp2_with fail
            go_roundw
            case rel => exact ⟨k + 1, by omega, by rw [hts.out], by rw [hbs'.out], by simp, Lib.hid (hrel.out _)⟩
            case measure => simp [intOf]; omega
          | false =>
            go_wp2_with fail
            go_quiet (fail)
            go_wp2_with fail
            go_roundw
            case rel => exact ⟨k + 1, by omega, by rw [hts.out], by rw [hbs'.out], by simp, Lib.hid (hrel.out _)⟩
            case measure => simp [intOf]; omega
        · have hBi : ((B : Int) == (t : Int)) = false := by simp; omega
          have hbt : (B == t) = false := by simp [hBt]
          rw [hbt, Bool.or_false] at hts
          replace hts := Lib.hid hts
          replace hBt := Lib.hid hBt
          cases hq : btw E t k with
          | true =>
            rw [hq] at hts
            go_wp2_with fail
            go_quiet (fail)
            go_wp2_with fail
            go_roundw
            case rel => exact ⟨k + 1, by omega, by rw [hts.out], by rw [hbs'.out], by simp, Lib.hid (hrel.out _)⟩
            case measure => simp [intOf]; omega
          | false =>
            rw [hq] at hts
            go_wp2_with fail
            go_quiet (fail)
            go_wp2_with fail
            go_roundw
            case rel => exact ⟨k + 1, by omega, by rw [hts.out], by rw [hbs'.out], by simp, Lib.hid (hrel.out _)⟩
            case measure => simp [intOf]; omega
      · obtain rfl : k = N := by omega
        have hki : ¬ (k : Int) < (k : Int) := by omega
        rw [hfin.out] at hkb ⊢
        rw [← hcut.out]
        have hLr := hLo.out p3 c3 wr (hS4.out.below hW.out)
        have hbr := Lib.hid (belowT hb4.out hW.out)
        cases R with
        | none =>
          replace hLr := Lib.hid hLr
          simp only [Option.isSome_none]
          go_wp2_with (go_at_call 21; refine hLr.out.mono ?_; rintro e w5 ⟨hbn, rfl⟩; have hb5 := Lib.hid (belowT hbr.out hbn); clear hbn)
          go_ret
          exact ⟨by simp, hb5.out⟩
        | some F =>
          replace hLr := Lib.hid hLr
          simp only [Option.isSome_some]
          go_wp2_with (go_at_call 21; refine hLr.out.mono ?_; rintro e w5 ⟨hbn, g5, b5, rfl, -, -, -⟩; have hb5 := Lib.hid (belowT hbr.out hbn); clear hbn)
          go_ret
          exact ⟨by simp, hb5.out⟩
end Go.Proofs.Ytfeiihmhdcnabaa
