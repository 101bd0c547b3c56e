/-
  The walk of KvLoads. Printed by wip/tools/genkvloads.py.
-/
import Derived.Test.YtfeiihmhdcnabaaKvSame
import Derived.Test.YtfeiihmhdcnabaaKvRefL
namespace Go.Proofs.Ytfeiihmhdcnabaa
set_option linter.unusedVariables false
set_option linter.unusedSimpArgs false
open Go.RowKit Go.MapKept
theorem BySl.pre {w : World} {p : Option Addr} {c n j : Nat} {l : List UInt8} (h : BySl w (.slice p n c) l) (hk : j ≤ n) : BySl w (.slice p j c) (l.take j) := by
  obtain ⟨p', c', e, h2, h3, h4⟩ := h
  obtain ⟨rfl, rfl, rfl⟩ := Value.slice.inj e
  have ht : (l.take j).length = j := by rw [List.length_take]; exact Nat.min_eq_left hk
  refine ⟨p, c, by rw [ht], by rw [ht]; exact Nat.le_trans hk h2, h3, fun h0 => ?_⟩
  rw [ht] at h0
  obtain ⟨b, o, e1, hb, hc⟩ := h4 (Nat.lt_of_lt_of_le h0 hk)
  refine ⟨b, o, e1, hb, fun q hq => ?_⟩
  rw [List.getElem_take]
  exact hc q (by rw [ht] at hq; exact Nat.lt_of_lt_of_le hq hk)
theorem slice_to (p : Option Addr) (n c : Nat) (h1 : 9000 ≤ c) (W : World) : (Instr.slice 26 (.slice p n c) none (some (.int .i64 9000)) none).run Try.prog W = .ok (.slice p 9000 c) W := by
  have h4 : (9000 : Int) ≤ (c : Int) := by omega
  simp [go_sem, h4, h1]
set_option maxRecDepth 100000 in
set_option maxHeartbeats 4000000 in
theorem kvLoads_walk (v : Value) (l : List UInt8) (w : World) (h : BySl w v l) :
    Calls Try.prog 7 #[v] w fun e w' => e = .returned (.bool true) ∧ Below w.heap.size w w' := by
  obtain ⟨N, hN⟩ : ∃ N, l.length = N := ⟨_, rfl⟩
  obtain ⟨p, c, rfl⟩ : ∃ p c, v = .slice p N c := by obtain ⟨p, c, h, -⟩ := h; exact ⟨p, c, hN ▸ h⟩
  have hL := Lib.hid live_kv
  by_cases hbig : 9000 < N
  · have hbi : (9000 : Int) < (N : Int) := by omega
    have hb := h.pre (j := 9000) (by omega)
    have hlb : (l.take 9000).length ≤ 9000 := by rw [List.length_take]; exact Nat.min_le_left _ _
    have hcc : N ≤ c := by
      obtain ⟨p', c', e, h2, -⟩ := h
      obtain ⟨-, -, rfl⟩ := Value.slice.inj e
      rw [hN] at h2
      exact h2
    have hsl := slice_to p N c (by omega)
    have hk1 := fun W (h : BySl W (.slice p 9000 c) (l.take 9000)) => kvLoad_any _ _ W h (by omega)
    have hk2 := fun W (h : BySl W (.slice p 9000 c) (l.take 9000)) => refLoad_any _ _ W h hlb
    generalize l.take 9000 = b at hb hlb hk1 hk2
    have hcv := True.intro
    replace hN := Lib.hid hN
    cases hE : loadE b with
    | none =>
      rw [hE] at hk1 hk2
      replace hE := Lib.hid hE
      replace hk1 := Lib.hid hk1
      replace hk2 := Lib.hid hk2
      replace hb := Lib.hid hb
      clear h hcv
      go_enter Try.func7, Try.ntmps7
      go_wp2_with (first
        | (have m0 := hb2; go_at_call 14; refine (hL.out _).mono ?_; rintro e w3 ⟨rfl, hbn⟩; have hb3 := Lib.hid (belowT hb2.out hbn); clear hbn)
        | (have m0 := hb1; go_at_call 22; refine (hk2.out w1 (hb.out.below hb1.out)).mono ?_; rintro e w2 ⟨hbn, rfl⟩; have hb2 := Lib.hid (belowT hb1.out hbn); clear hbn)
        | (go_at_call 21; refine (hk1.out w hb.out).mono ?_; rintro e w1 ⟨hb1, rfl⟩; replace hb1 := Lib.hid hb1))
      go_ret
      exact ⟨rfl, hb3.out⟩
    | some E =>
      rw [hE] at hk1 hk2
      obtain ⟨hok, hbe⟩ := loadE_bytes hE
      have hSa : Hid (∀ g b gr W, Both w.heap.size W g b gr E → Calls Try.prog 17 #[.pointer (some ⟨g, 0, none⟩), .pointer (some ⟨gr, 0, none⟩), .string ⟨#[]⟩] W fun e w' => e = .returned (.bool true) ∧ Below W.heap.size W w') := Lib.hid fun g b gr W h => same_any w.heap.size g b gr E [] W h (by simp)
      have hBy : Hid (∀ g b0 W, KvS W g b0 E → Calls Try.prog 23 #[.pointer (some ⟨g, 0, none⟩)] W fun e w' => ∃ sv, e = .returned sv ∧ (∀ W : World, Below w'.heap.size w' W → (convert 26 9 sv).run Try.prog W = .ok (.string ⟨b.toArray⟩) W) ∧ Below W.heap.size W w') := Lib.hid fun g b0 W h => by
        have := bytesC g b0 E W h
        rw [hbe] at this
        exact this.mono fun e w' ⟨sv, h1, h2, _, h3⟩ => ⟨sv, h1, h2, h3⟩
      have hcv : Hid (∀ W, Below w.heap.size w W → (convert 26 9 (.slice p 9000 c)).run Try.prog W = .ok (.string ⟨b.toArray⟩) W) := Lib.hid fun W hW => (hb.below hW).string
      clear hok hbe h
      replace hE := Lib.hid hE
      replace hk1 := Lib.hid hk1
      replace hk2 := Lib.hid hk2
      replace hb := Lib.hid hb
      go_enter Try.func7, Try.ntmps7
      go_wp2_with (first
        | (have m0 := hb1; go_at_call 22; refine (hk2.out w1 (hb.out.below hb1.out)).mono ?_; rintro e w2 ⟨hbn, gr, rfl, hgr, hR⟩; have hBo := Lib.hid (⟨hK.out.below hbn, hR, hb0', Nat.le_trans hb1.out.size hgr⟩ : Both w.heap.size w2 g b0 gr E); have hb2 := Lib.hid (belowT hb1.out hbn); clear hbn hR)
        | (go_at_call 21; refine (hk1.out w hb.out).mono ?_; rintro e w1 ⟨hb1, g, b0, rfl, hg', hb0', hK⟩; replace hb1 := Lib.hid hb1; replace hK := Lib.hid hK))
      replace hBo := Lib.hid (hBo.out.below ((Below.refl _ _).drew))
      replace hb2 := Lib.hid (hb2.out.drew)
      refine wp_region_ord [1, 2, 3, 5, 6, 7, 10, 11, 9, 12, 13, 14] [0, 1, 2, 3, 4, 5, 6, 7, 10, 11, 8, 9, 12, 13, 14] (by kernel_rfl) (by kernel_rfl) ?_
      apply OrdRun.drive
      · rfl
      · (simp only [List.getElem?_toArray, List.getElem?_cons_zero, List.getElem?_cons_succ]; exact rfl)
      gi_wp2_with (refine ⟨trivial, rfl, callsIn_wide.2 ?_⟩; go_at_call 14; refine (hL.out _).mono ?_; rintro e w3 ⟨rfl, hbn⟩)
      try refine And.intro hbn ?_
      have hBo3 := Lib.hid (hBo.out.below hbn)
      have hb3 := Lib.hid (belowT hb2.out hbn)
      clear hbn
      repeat (first
        | (apply OrdRun.val
           · rfl
           · (simp only [List.getElem?_toArray, List.getElem?_cons_zero, List.getElem?_cons_succ]; exact rfl)
           · (intro Wx; rfl)
           · rfl
           · (intro Wx hWx; first | (go_simp; done) | (go_simp; with_reducible rfl))
           simp only [Act.put, List.setIfInBounds_toArray, List.set_cons_zero, List.set_cons_succ]))
      apply OrdRun.drive
      · rfl
      · (simp only [List.getElem?_toArray, List.getElem?_cons_zero, List.getElem?_cons_succ]; exact rfl)
      gi_wp2_with (refine ⟨trivial, rfl, callsIn_wide.2 ?_⟩; go_at_call 17; refine (hSa.out _ _ _ _ hBo3.out).mono ?_; rintro e w4 ⟨rfl, hbn⟩)
      try refine And.intro hbn ?_
      have hBo4 := Lib.hid (hBo3.out.below hbn)
      have hb4 := Lib.hid (belowT hb3.out hbn)
      clear hbn
      have hcq := fun (W : World) (hW : Below w4.heap.size w4 W) => hcv.out W (belowT hb4.out hW)
      replace hcq := Lib.hid hcq
      repeat (first
        | (apply OrdRun.val
           · rfl
           · (simp only [List.getElem?_toArray, List.getElem?_cons_zero, List.getElem?_cons_succ]; exact rfl)
           · (intro Wx; rfl)
           · rfl
           · (intro Wx hWx; first | (go_simp; done) | (go_simp; with_reducible rfl) | (have hcx := hcq.out Wx hWx; go_simp; with_reducible rfl))
           simp only [Act.put, List.setIfInBounds_toArray, List.set_cons_zero, List.set_cons_succ]))
      apply OrdRun.drive
      · rfl
      · (simp only [List.getElem?_toArray, List.getElem?_cons_zero, List.getElem?_cons_succ]; exact rfl)
      gi_wp2_with (refine ⟨trivial, rfl, callsIn_wide.2 ?_⟩; go_at_call 23; refine (hBy.out _ _ _ hBo4.out.kv).mono ?_; rintro e w5 ⟨v5, rfl, hc5, hbn⟩)
      try refine And.intro hbn ?_
      have hb5 := Lib.hid (belowT hb4.out hbn)
      clear hbn
      replace hc5 := Lib.hid hc5
      repeat (first
        | (apply OrdRun.val
           · rfl
           · (simp only [List.getElem?_toArray, List.getElem?_cons_zero, List.getElem?_cons_succ]; exact rfl)
           · (intro Wx; rfl)
           · rfl
           · (intro Wx hWx; first | (go_simp; done) | (go_simp; with_reducible rfl) | (have hcx := hc5.out Wx hWx; go_simp; with_reducible rfl))
           simp only [Act.put, List.setIfInBounds_toArray, List.set_cons_zero, List.set_cons_succ]))
      refine OrdRun.nil ?_
      go_wp2
      go_ret
      exact ⟨by simp, hb5.out⟩
  · have hbi : ¬ (9000 : Int) < (N : Int) := by omega
    have hb := h
    have hk1 := fun W (h : BySl W (.slice p N c) l) => kvLoad_any _ _ W h (by omega)
    have hk2 := fun W (h : BySl W (.slice p N c) l) => refLoad_any _ _ W h (by omega)
    generalize l = b at hb hk1 hk2 h hN
    have hcv := True.intro
    replace hN := Lib.hid hN
    cases hE : loadE b with
    | none =>
      rw [hE] at hk1 hk2
      replace hE := Lib.hid hE
      replace hk1 := Lib.hid hk1
      replace hk2 := Lib.hid hk2
      replace hb := Lib.hid hb
      clear h hcv
      go_enter Try.func7, Try.ntmps7
      go_wp2_with (first
        | (have m0 := hb2; go_at_call 14; refine (hL.out _).mono ?_; rintro e w3 ⟨rfl, hbn⟩; have hb3 := Lib.hid (belowT hb2.out hbn); clear hbn)
        | (have m0 := hb1; go_at_call 22; refine (hk2.out w1 (hb.out.below hb1.out)).mono ?_; rintro e w2 ⟨hbn, rfl⟩; have hb2 := Lib.hid (belowT hb1.out hbn); clear hbn)
        | (go_at_call 21; refine (hk1.out w hb.out).mono ?_; rintro e w1 ⟨hb1, rfl⟩; replace hb1 := Lib.hid hb1))
      go_ret
      exact ⟨rfl, hb3.out⟩
    | some E =>
      rw [hE] at hk1 hk2
      obtain ⟨hok, hbe⟩ := loadE_bytes hE
      have hSa : Hid (∀ g b gr W, Both w.heap.size W g b gr E → Calls Try.prog 17 #[.pointer (some ⟨g, 0, none⟩), .pointer (some ⟨gr, 0, none⟩), .string ⟨#[]⟩] W fun e w' => e = .returned (.bool true) ∧ Below W.heap.size W w') := Lib.hid fun g b gr W h => same_any w.heap.size g b gr E [] W h (by simp)
      have hBy : Hid (∀ g b0 W, KvS W g b0 E → Calls Try.prog 23 #[.pointer (some ⟨g, 0, none⟩)] W fun e w' => ∃ sv, e = .returned sv ∧ (∀ W : World, Below w'.heap.size w' W → (convert 26 9 sv).run Try.prog W = .ok (.string ⟨b.toArray⟩) W) ∧ Below W.heap.size W w') := Lib.hid fun g b0 W h => by
        have := bytesC g b0 E W h
        rw [hbe] at this
        exact this.mono fun e w' ⟨sv, h1, h2, _, h3⟩ => ⟨sv, h1, h2, h3⟩
      have hcv : Hid (∀ W, Below w.heap.size w W → (convert 26 9 (.slice p N c)).run Try.prog W = .ok (.string ⟨b.toArray⟩) W) := Lib.hid fun W hW => (hb.below hW).string
      clear hok hbe h
      replace hE := Lib.hid hE
      replace hk1 := Lib.hid hk1
      replace hk2 := Lib.hid hk2
      replace hb := Lib.hid hb
      go_enter Try.func7, Try.ntmps7
      go_wp2_with (first
        | (have m0 := hb1; go_at_call 22; refine (hk2.out w1 (hb.out.below hb1.out)).mono ?_; rintro e w2 ⟨hbn, gr, rfl, hgr, hR⟩; have hBo := Lib.hid (⟨hK.out.below hbn, hR, hb0', Nat.le_trans hb1.out.size hgr⟩ : Both w.heap.size w2 g b0 gr E); have hb2 := Lib.hid (belowT hb1.out hbn); clear hbn hR)
        | (go_at_call 21; refine (hk1.out w hb.out).mono ?_; rintro e w1 ⟨hb1, g, b0, rfl, hg', hb0', hK⟩; replace hb1 := Lib.hid hb1; replace hK := Lib.hid hK))
      replace hBo := Lib.hid (hBo.out.below ((Below.refl _ _).drew))
      replace hb2 := Lib.hid (hb2.out.drew)
      refine wp_region_ord [1, 2, 3, 5, 6, 7, 10, 11, 9, 12, 13, 14] [0, 1, 2, 3, 4, 5, 6, 7, 10, 11, 8, 9, 12, 13, 14] (by kernel_rfl) (by kernel_rfl) ?_
      apply OrdRun.drive
      · rfl
      · (simp only [List.getElem?_toArray, List.getElem?_cons_zero, List.getElem?_cons_succ]; exact rfl)
      gi_wp2_with (refine ⟨trivial, rfl, callsIn_wide.2 ?_⟩; go_at_call 14; refine (hL.out _).mono ?_; rintro e w3 ⟨rfl, hbn⟩)
      try refine And.intro hbn ?_
      have hBo3 := Lib.hid (hBo.out.below hbn)
      have hb3 := Lib.hid (belowT hb2.out hbn)
      clear hbn
      repeat (first
        | (apply OrdRun.val
           · rfl
           · (simp only [List.getElem?_toArray, List.getElem?_cons_zero, List.getElem?_cons_succ]; exact rfl)
           · (intro Wx; rfl)
           · rfl
           · (intro Wx hWx; first | (go_simp; done) | (go_simp; with_reducible rfl))
           simp only [Act.put, List.setIfInBounds_toArray, List.set_cons_zero, List.set_cons_succ]))
      apply OrdRun.drive
      · rfl
      · (simp only [List.getElem?_toArray, List.getElem?_cons_zero, List.getElem?_cons_succ]; exact rfl)
      gi_wp2_with (refine ⟨trivial, rfl, callsIn_wide.2 ?_⟩; go_at_call 17; refine (hSa.out _ _ _ _ hBo3.out).mono ?_; rintro e w4 ⟨rfl, hbn⟩)
      try refine And.intro hbn ?_
      have hBo4 := Lib.hid (hBo3.out.below hbn)
      have hb4 := Lib.hid (belowT hb3.out hbn)
      clear hbn
      have hcq := fun (W : World) (hW : Below w4.heap.size w4 W) => hcv.out W (belowT hb4.out hW)
      replace hcq := Lib.hid hcq
      repeat (first
        | (apply OrdRun.val
           · rfl
           · (simp only [List.getElem?_toArray, List.getElem?_cons_zero, List.getElem?_cons_succ]; exact rfl)
           · (intro Wx; rfl)
           · rfl
           · (intro Wx hWx; first | (go_simp; done) | (go_simp; with_reducible rfl) | (have hcx := hcq.out Wx hWx; go_simp; with_reducible rfl))
           simp only [Act.put, List.setIfInBounds_toArray, List.set_cons_zero, List.set_cons_succ]))
      apply OrdRun.drive
      · rfl
      · (simp only [List.getElem?_toArray, List.getElem?_cons_zero, List.getElem?_cons_succ]; exact rfl)
      gi_wp2_with (refine ⟨trivial, rfl, callsIn_wide.2 ?_⟩; go_at_call 23; refine (hBy.out _ _ _ hBo4.out.kv).mono ?_; rintro e w5 ⟨v5, rfl, hc5, hbn⟩)
      try refine And.intro hbn ?_
      have hb5 := Lib.hid (belowT hb4.out hbn)
      clear hbn
      replace hc5 := Lib.hid hc5
      repeat (first
        | (apply OrdRun.val
           · rfl
           · (simp only [List.getElem?_toArray, List.getElem?_cons_zero, List.getElem?_cons_succ]; exact rfl)
           · (intro Wx; rfl)
           · rfl
           · (intro Wx hWx; first | (go_simp; done) | (go_simp; with_reducible rfl) | (have hcx := hc5.out Wx hWx; go_simp; with_reducible rfl))
           simp only [Act.put, List.setIfInBounds_toArray, List.set_cons_zero, List.set_cons_succ]))
      refine OrdRun.nil ?_
      go_wp2
      go_ret
      exact ⟨by simp, hb5.out⟩
end Go.Proofs.Ytfeiihmhdcnabaa
