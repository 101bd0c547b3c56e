/-
  The walk of KvForks.
-/
import Derived.Test.YtfeiihmhdcnabaaKvSame
namespace Go.Proofs.Ytfeiihmhdcnabaa
set_option linter.unusedVariables false
set_option linter.unusedSimpArgs false
open Go.RowKit Go.MapKept
set_option maxHeartbeats 2000000 in
theorem kvForks_walk (v : Value) (l : List Dd) (v2 : Value) (m : List Dd) (w : World) (h : DdS w v l) (hB : DdB l) (h2 : DdS w v2 m) (hB2 : DdB m) :
    Calls Try.prog 8 #[v, v2] w fun e w' => e = .returned (.bool true) ∧ Below w.heap.size w w' := by
  have hP := Lib.hid (play_any v l w h hB)
  have hSa : Hid (∀ n0 g b gr E W, Both n0 W g b gr E → Calls Try.prog 17 #[.pointer (some ⟨g, 0, none⟩), .pointer (some ⟨gr, 0, none⟩), .string ⟨#[]⟩] W fun e w' => e = .returned (.bool true) ∧ Below W.heap.size W w') := Lib.hid fun n0 g b gr E W h => same_any n0 g b gr E [] W h (by simp)
  have hL := Lib.hid live_kv
  obtain ⟨va, vn, vc, rfl⟩ : ∃ a n c, v = .slice a n c := by obtain ⟨a, c, h, -⟩ := h; exact ⟨a, _, c, h⟩
  clear h hB
  generalize playE [] (l.take 60) = E at hP
  obtain ⟨N, hN⟩ : ∃ N, m.length = N := ⟨_, rfl⟩
  obtain ⟨p, c, rfl, h2, h3, hat⟩ := h2
  rw [hN] at h2 ⊢
  have hN63 : (N : Int) ≤ 9223372036854775807 := by unfold maxLen at h3; omega
  replace hB2 := Lib.hid hB2
  replace hat := Lib.hid hat
  replace hN := Lib.hid hN
  clear h2 h3
  go_enter Try.func8, Try.ntmps8
  go_wp2_with (first
    | (have m0 := hF4; go_at_call 25; refine (refFork_any gr E _ hBo4.out.rf).mono ?_; rintro e w5 ⟨gr2, rfl, hgr2, hR5, hbn⟩; have hF5 := Lib.hid (⟨hF4.out.2.2.below hbn, hR5, hF4.out.2.1, Nat.le_trans hb34.out.size hgr2⟩ : Both w3.heap.size w5 g2 b2 gr2 E); have hb35 := Lib.hid (belowT hb34.out hbn); clear hbn hR5)
    | (have m0 := hb3; go_at_call 24; refine (kvFork_any g b E _ hBo3.out.kv).mono ?_; rintro e w4 ⟨g2, b2, rfl, hg2, hb2', hK4, hbn⟩; have hF4 := Lib.hid (⟨hg2, hb2', hK4⟩ : _ ∧ _ ∧ _); have hBo4 := Lib.hid (hBo3.out.below hbn); have hb34 := Lib.hid hbn; clear hbn hK4)
    | (have m0 := hb1; go_at_call 14; refine (hL.out _).mono ?_; rintro e w3 ⟨rfl, hbn⟩; have hBo3 := Lib.hid (hBo.out.below hbn); have hb3 := Lib.hid (belowT hb1.out hbn); clear hbn)
    | (go_at_call 16; refine hP.out.mono ?_; rintro e w1 ⟨g, b, gr, rfl, hBo, hb1⟩; replace hBo := Lib.hid hBo; replace hb1 := Lib.hid hb1))
  go_loopw [10] (fun s10 wr => ∃ k : Nat, k ≤ N ∧ k ≤ 20 ∧ s10 = .int .i64 k ∧ Hid (Both w3.heap.size wr g2 b2 gr2 (playE E (m.take k))) ∧ Hid (Below w3.heap.size w3 wr)) (fun s10 _ => 20 - (intOf s10).toNat)
  case atStart => exact ⟨0, Nat.zero_le _, Nat.zero_le _, rfl, hF5, hb35⟩
  case round =>
    clear hF5 hb35 hF4 hBo4 hb34
    obtain ⟨k, hk, hk60, rfl, hBk, hW⟩ := hrel
    have hsz3 := hb3.out.size
    by_cases hlt : k < N
    · have hki : (k : Int) < (N : Int) := by omega
      by_cases hl6 : k < 20
      · have h6i : (k : Int) < 20 := by omega
        have hk0 : (0 : Int) ≤ (k : Int) := by omega
        have hk3 : k < m.length := by have := hN.out; omega
        obtain ⟨pb, o, rfl, hb, hcc⟩ := hat.out (by omega)
        obtain ⟨d0, d1, d2⟩ := hcc k hk3
        have kc := fun (j : Nat) => (hb3.out.trans (hW.out.mono hsz3)).cell (p := ⟨pb, j, none⟩) hb
        replace d0 := (kc _).trans d0
        replace d1 := (kc _).trans d1
        replace d2 := (kc _).trans d2
        have hsn := play_snoc (E := E) hk3
        obtain ⟨hx1, hx2⟩ := hB2.out _ (List.getElem_mem hk3)
        have hDo := do_any w3.heap.size g2 b2 gr2 _ (m[k]'hk3) wr hBk.out hW.out.size hx1 hx2
        clear hcc kc hx1 hx2
        generalize hE : m[k] = x at d0 d1 d2 hsn hDo
        obtain ⟨xk, xc, xv⟩ := x
        simp only at d0 d1 d2
        clear hE
        replace hsn := Lib.hid hsn
        replace hDo := Lib.hid hDo
        have hbw : pb < wr.heap.size := Nat.lt_of_lt_of_le hb (Nat.le_trans hsz3 hW.out.size)
        go_wp2_with (go_at_call 26; refine hDo.out.mono ?_; rintro e w6 ⟨rfl, hBn, hbn⟩; replace hBn := Lib.hid hBn; have hW6 := Lib.hid (hW.out.trans hbn); clear hbn)
        go_roundw
        case rel =>
          refine ⟨k + 1, by omega, by omega, by simp, ?_, hW6⟩
          rw [hsn.out]
          exact hBn
        case measure => simp [intOf]; omega
      · obtain rfl : k = 20 := by omega
        have hBr := Lib.hid (hBo3.out.below hW.out)
        have hbr := Lib.hid (hb3.out.trans (hW.out.mono hsz3))
        generalize playE E (m.take 20) = F at hBk
        go_wp2_with (first
          | (have m0 := hbA; go_at_call 17; refine (hSa.out _ _ _ _ _ _ hBk2.out).mono ?_; rintro e w8 ⟨rfl, hbn⟩; have hbZ := Lib.hid (belowT hbA.out hbn); clear hbn)
          | (go_at_call 17; refine (hSa.out _ _ _ _ _ _ hBr.out).mono ?_; rintro e w7 ⟨rfl, hbn⟩; have hBk2 := Lib.hid (hBk.out.below hbn); have hbA := Lib.hid (belowT hbr.out hbn); clear hbn))
        go_ret
        exact ⟨rfl, hbZ.out⟩
    · obtain rfl : k = N := by omega
      have hki : ¬ (k : Int) < (k : Int) := by omega
      have hBr := Lib.hid (hBo3.out.below hW.out)
      have hbr := Lib.hid (hb3.out.trans (hW.out.mono hsz3))
      generalize playE E (m.take k) = F at hBk
      go_wp2_with (first
        | (have m0 := hbA; go_at_call 17; refine (hSa.out _ _ _ _ _ _ hBk2.out).mono ?_; rintro e w8 ⟨rfl, hbn⟩; have hbZ := Lib.hid (belowT hbA.out hbn); clear hbn)
        | (go_at_call 17; refine (hSa.out _ _ _ _ _ _ hBr.out).mono ?_; rintro e w7 ⟨rfl, hbn⟩; have hBk2 := Lib.hid (hBk.out.below hbn); have hbA := Lib.hid (belowT hbr.out hbn); clear hbn))
      go_ret
      exact ⟨rfl, hbZ.out⟩
end Go.Proofs.Ytfeiihmhdcnabaa
