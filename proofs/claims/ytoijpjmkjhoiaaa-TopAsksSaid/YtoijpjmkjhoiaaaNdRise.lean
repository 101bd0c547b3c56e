/-
  Addresses that rise (node.rising): where they do, the program says so. Printed by wip/tools/genrise.py. Condition: at most 16 of them, texts within the reach.
-/
import Derived.Test.YtoijpjmkjhoiaaaTtRise
import Derived.Sort.Walk0
namespace Go.Proofs.Ytoijpjmkjhoiaaa
set_option linter.unusedVariables false
set_option linter.unusedSimpArgs false
open Go.RowKit Go.MapKept Go.Shelf
theorem geq_ndr (a b : Tx) (W : World) : (binOp .geq 9 (.string ⟨a.toArray⟩) (.string ⟨b.toArray⟩)).run Try.prog W = .ok (.bool (!decide (a < b))) W := by
  simp [binOp, Op.stringOp, bytesLess_eq, Lib.toList_data]
set_option maxRecDepth 100000 in
set_option maxHeartbeats 8000000 in
theorem riseAffP_any (v : Value) (l : List (Tx × Nat)) (w : World) (hA : AfS w v l) (hl : l.length ≤ 16) (had : ∀ j (h : j < l.length), addrP (l[j]'h).1 = true ∧ (l[j]'h).1.length ≤ 140737488351232) (hlt : ∀ j (h : j + 1 < l.length), (l[j]'(by omega)).1 < (l[j + 1]'h).1) :
    Calls Try.prog 26 #[v, .func (.func 21) #[] #[]] w fun e w' => e = .returned (.bool true) ∧ Below w.heap.size w w' := by
  have eg := enters_of (P := Try.prog) Try.func21 (by kernel_rfl) rfl
  obtain ⟨N, hN⟩ : ∃ N, l.length = N := ⟨_, rfl⟩
  obtain ⟨ptr, cap, rfl, hc1, hc2, hat⟩ := hA
  have hN16 : (N : Int) ≤ 16 := by omega
  rw [hN]
  replace hN := Lib.hid hN
  replace hat := Lib.hid hat
  replace had := Lib.hid had
  replace hlt := Lib.hid hlt
  clear hc1 hc2 hl
  go_enter Try.func26, Try.ntmps26
  go_wp2
  go_loopw [9] (fun s9 wr => ∃ k : Nat, k ≤ N ∧ s9 = .int .i64 k ∧ Hid (Below w.heap.size w wr)) (fun s9 _ => N - (intOf s9).toNat)
  case atStart => exact ⟨0, by omega, rfl, Lib.hid (Below.refl _ _)⟩
  case round =>
    obtain ⟨k, hk, rfl, hB⟩ := hrel
    by_cases hlk : k < N
    · have hk3 : k < l.length := by have := hN.out; omega
      obtain ⟨b, o, rfl, hb, hcc⟩ := hat.out (by omega)
      obtain ⟨d0, d1⟩ := hcc k hk3
      have kc := fun (j : Nat) => hB.out.cell (p := ⟨b, j, none⟩) hb
      replace d0 := (kc _).trans d0
      replace d1 := (kc _).trans d1
      obtain ⟨ad, ln⟩ := had.out k hk3
      obtain ⟨x, hx⟩ : ∃ x, l[k]'hk3 = x := ⟨_, rfl⟩
      rw [hx] at d0 d1 ad ln
      have hki : (k : Int) < (N : Int) := by omega
      have hk0 : (0 : Int) ≤ (k : Int) := by omega
      have hbw : b < wr.heap.size := Nat.lt_of_lt_of_le hb hB.out.size
      have hAd : Hid (∀ W, Calls Try.prog 10 #[.string ⟨x.1.toArray⟩] W fun e w' => e = .returned (.bool true) ∧ Below W.heap.size W w') := Lib.hid fun W => by
        have := address_any x.1 W ln
        rwa [ad] at this
      have hOf : Hid (∀ W, Calls Try.prog 21 #[.agg #[.string ⟨x.1.toArray⟩, .int .u8 x.2]] W fun e w' => e = .returned (.string ⟨x.1.toArray⟩) ∧ Below W.heap.size W w') := Lib.hid fun W => affOf_any x.1 x.2 W
      replace ad := Lib.hid ad
      by_cases hz : k = 0
      · have hkz2 : decide (0 < k) = false := by simp [hz]
        have hOfp := hOf
        replace hz := Lib.hid hz
        replace hx := Lib.hid hx
        clear hcc kc
        obtain ⟨xj, xr⟩ := x
        simp only at d0 d1 hAd hOf hOfp
        go_upto_region 4 with (fail)
        refine wp_region_float (by kernel_rfl) (by kernel_rfl) (fun W => W.cell? ⟨wr.heap.size, 0, none⟩ = some (.string ⟨xj.toArray⟩) ∧ W.cell? ⟨wr.heap.size, 1, none⟩ = some (.int .u8 xr) ∧ Below wr.heap.size wr W ∧ wr.heap.size < W.heap.size) (by refine ⟨?_, ?_, (below1 _ _).drew, ?_⟩ <;> simp) ?_
        simp only [List.toList_toArray]
        repeat (first
          | (apply Flo.skip; · rfl
             simp only [Act.put, List.setIfInBounds_toArray, List.set_cons_zero, List.set_cons_succ, hkz2])
          | (apply Flo.val; · rfl
             · (intro W hSw; obtain ⟨hs0, hs1, hs5, hs3⟩ := hSw; skip; replace hs5 := Lib.hid hs5; go_simp; (try with_reducible rfl))
             simp only [Act.put, List.setIfInBounds_toArray, List.set_cons_zero, List.set_cons_succ, hkz2])
          | (apply Flo.call; · rfl
             · (intro W hSw; obtain ⟨hs0, hs1, -, hs3⟩ := hSw; go_simp; first | exact ⟨rfl, rfl⟩ | with_reducible rfl)
             · (intro W hSw
                first
                 | (exact (hOf.out _).mono (fun e w'' h => ⟨h.1, keep2 hSw h.2⟩))
                 | (exact (hOfp.out _).mono (fun e w'' h => ⟨h.1, keep2 hSw h.2⟩))
                 | (exact (hAd.out _).mono (fun e w'' h => ⟨h.1, keep2 hSw h.2⟩)))
             simp only [Act.put, List.setIfInBounds_toArray, List.set_cons_zero, List.set_cons_succ, hkz2])
          | fail)
        intro W hSw
        replace hSw := Lib.hid hSw
        go_wp2_with fail
        go_roundw
        case rel => exact ⟨k + 1, by omega, by simp, Lib.hid (belowT hB.out hSw.out.2.2.1)⟩
        case measure => simp [intOf]; omega
      · have hkz2 : decide (0 < k) = true := by simp; omega
        have hp3 : k - 1 < l.length := by omega
        obtain ⟨e0, e1⟩ := hcc (k - 1) hp3
        replace e0 := (kc _).trans e0
        replace e1 := (kc _).trans e1
        have hlp := hlt.out (k - 1) (by omega)
        have hk1 : l[k - 1 + 1]'(by omega) = x := by rw [← hx]; congr 1; omega
        rw [hk1] at hlp
        obtain ⟨y, hy⟩ : ∃ y, l[k - 1]'hp3 = y := ⟨_, rfl⟩
        rw [hy] at e0 e1 hlp
        have hw1 : IntKind.i64.wrap ((k : Int) - 1) = ((k - 1 : Nat) : Int) := by rw [wrap_small _ (by omega) (by omega)]; omega
        have hq0 : (0 : Int) ≤ ((k - 1 : Nat) : Int) := by omega
        have hq1 : ((k - 1 : Nat) : Int) < (N : Int) := by omega
        have hq2 : k - 1 < N := by omega
        have hge : Hid (∀ W : World, (binOp .geq 9 (.string ⟨y.1.toArray⟩) (.string ⟨x.1.toArray⟩)).run Try.prog W = .ok (.bool false) W) := Lib.hid fun W => by
          have h := geq_ndr y.1 x.1 W
          rw [show decide (y.1 < x.1) = true by simpa using hlp] at h
          exact h
        have hOfp : Hid (∀ W, Calls Try.prog 21 #[.agg #[.string ⟨y.1.toArray⟩, .int .u8 y.2]] W fun e w' => e = .returned (.string ⟨y.1.toArray⟩) ∧ Below W.heap.size W w') := Lib.hid fun W => affOf_any y.1 y.2 W
        replace hz := Lib.hid hz
        replace hx := Lib.hid hx
        replace hy := Lib.hid hy
        replace hlp := Lib.hid hlp
        clear hcc kc hk1
        generalize hkm : k - 1 = km at e0 e1 hw1 hq0 hq1 hq2
        replace hkm := Lib.hid hkm
        obtain ⟨xj, xr⟩ := x
        obtain ⟨yj, yr⟩ := y
        simp only at d0 d1 e0 e1 hAd hOf hOfp hge
        go_upto_region 4 with (fail)
        refine wp_region_float (by kernel_rfl) (by kernel_rfl) (fun W => W.cell? ⟨wr.heap.size, 0, none⟩ = some (.string ⟨xj.toArray⟩) ∧ W.cell? ⟨wr.heap.size, 1, none⟩ = some (.int .u8 xr) ∧ Below wr.heap.size wr W ∧ wr.heap.size < W.heap.size) (by refine ⟨?_, ?_, (below1 _ _).drew, ?_⟩ <;> simp) ?_
        simp only [List.toList_toArray]
        repeat (first
          | (apply Flo.skip; · rfl
             simp only [Act.put, List.setIfInBounds_toArray, List.set_cons_zero, List.set_cons_succ, hkz2])
          | (apply Flo.val; · rfl
             · (intro W hSw; obtain ⟨hs0, hs1, hs5, hs3⟩ := hSw; have q0 := (hs5.cell (p := ⟨b, o + km * 2, none⟩) hbw).trans e0; have q1 := (hs5.cell (p := ⟨b, o + km * 2 + 1, none⟩) hbw).trans e1; have hbW := Nat.lt_of_lt_of_le hbw hs5.size; have hgeW := hge.out W; replace hs5 := Lib.hid hs5; go_simp; (try with_reducible rfl))
             simp only [Act.put, List.setIfInBounds_toArray, List.set_cons_zero, List.set_cons_succ, hkz2])
          | (apply Flo.call; · rfl
             · (intro W hSw; obtain ⟨hs0, hs1, -, hs3⟩ := hSw; go_simp; first | exact ⟨rfl, rfl⟩ | with_reducible rfl)
             · (intro W hSw
                first
                 | (exact (hOf.out _).mono (fun e w'' h => ⟨h.1, keep2 hSw h.2⟩))
                 | (exact (hOfp.out _).mono (fun e w'' h => ⟨h.1, keep2 hSw h.2⟩))
                 | (exact (hAd.out _).mono (fun e w'' h => ⟨h.1, keep2 hSw h.2⟩)))
             simp only [Act.put, List.setIfInBounds_toArray, List.set_cons_zero, List.set_cons_succ, hkz2])
          | fail)
        intro W hSw
        replace hSw := Lib.hid hSw
        go_wp2_with fail
        go_roundw
        case rel => exact ⟨k + 1, by omega, by simp, Lib.hid (belowT hB.out hSw.out.2.2.1)⟩
        case measure => simp [intOf]; omega
    · have hki : ¬ (k : Int) < (N : Int) := by omega
      go_wp2
      go_ret
      exact ⟨rfl, hB.out⟩
set_option maxRecDepth 100000 in
set_option maxHeartbeats 8000000 in
theorem riseSubP_any (v : Value) (l : List (Tx × Bool × Int)) (w : World) (hA : SuS w v l) (hl : l.length ≤ 16) (had : ∀ j (h : j < l.length), addrP (l[j]'h).1 = true ∧ (l[j]'h).1.length ≤ 140737488351232) (hlt : ∀ j (h : j + 1 < l.length), (l[j]'(by omega)).1 < (l[j + 1]'h).1) :
    Calls Try.prog 27 #[v, .func (.func 16) #[] #[]] w fun e w' => e = .returned (.bool true) ∧ Below w.heap.size w w' := by
  have eg := enters_of (P := Try.prog) Try.func16 (by kernel_rfl) rfl
  obtain ⟨N, hN⟩ : ∃ N, l.length = N := ⟨_, rfl⟩
  obtain ⟨ptr, cap, rfl, hc1, hc2, hat⟩ := hA
  have hN16 : (N : Int) ≤ 16 := by omega
  rw [hN]
  replace hN := Lib.hid hN
  replace hat := Lib.hid hat
  replace had := Lib.hid had
  replace hlt := Lib.hid hlt
  clear hc1 hc2 hl
  go_enter Try.func27, Try.ntmps27
  go_wp2
  go_loopw [9] (fun s9 wr => ∃ k : Nat, k ≤ N ∧ s9 = .int .i64 k ∧ Hid (Below w.heap.size w wr)) (fun s9 _ => N - (intOf s9).toNat)
  case atStart => exact ⟨0, by omega, rfl, Lib.hid (Below.refl _ _)⟩
  case round =>
    obtain ⟨k, hk, rfl, hB⟩ := hrel
    by_cases hlk : k < N
    · have hk3 : k < l.length := by have := hN.out; omega
      obtain ⟨b, o, rfl, hb, hcc⟩ := hat.out (by omega)
      obtain ⟨d0, d1, d2⟩ := hcc k hk3
      have kc := fun (j : Nat) => hB.out.cell (p := ⟨b, j, none⟩) hb
      replace d0 := (kc _).trans d0
      replace d1 := (kc _).trans d1
      replace d2 := (kc _).trans d2
      obtain ⟨ad, ln⟩ := had.out k hk3
      obtain ⟨x, hx⟩ : ∃ x, l[k]'hk3 = x := ⟨_, rfl⟩
      rw [hx] at d0 d1 d2 ad ln
      have hki : (k : Int) < (N : Int) := by omega
      have hk0 : (0 : Int) ≤ (k : Int) := by omega
      have hbw : b < wr.heap.size := Nat.lt_of_lt_of_le hb hB.out.size
      have hAd : Hid (∀ W, Calls Try.prog 10 #[.string ⟨x.1.toArray⟩] W fun e w' => e = .returned (.bool true) ∧ Below W.heap.size W w') := Lib.hid fun W => by
        have := address_any x.1 W ln
        rwa [ad] at this
      have hOf : Hid (∀ W, Calls Try.prog 16 #[.agg #[.string ⟨x.1.toArray⟩, .bool x.2.1, .int .i64 x.2.2]] W fun e w' => e = .returned (.string ⟨x.1.toArray⟩) ∧ Below W.heap.size W w') := Lib.hid fun W => subOf_any x.1 x.2.1 x.2.2 W
      replace ad := Lib.hid ad
      by_cases hz : k = 0
      · have hkz2 : decide (0 < k) = false := by simp [hz]
        have hOfp := hOf
        replace hz := Lib.hid hz
        replace hx := Lib.hid hx
        clear hcc kc
        obtain ⟨xj, xp, xd⟩ := x
        simp only at d0 d1 d2 hAd hOf hOfp
        go_upto_region 4 with (fail)
        refine wp_region_float (by kernel_rfl) (by kernel_rfl) (fun W => W.cell? ⟨wr.heap.size, 0, none⟩ = some (.string ⟨xj.toArray⟩) ∧ W.cell? ⟨wr.heap.size, 1, none⟩ = some (.bool xp) ∧ W.cell? ⟨wr.heap.size, 2, none⟩ = some (.int .i64 xd) ∧ Below wr.heap.size wr W ∧ wr.heap.size < W.heap.size) (by refine ⟨?_, ?_, ?_, (below1 _ _).drew, ?_⟩ <;> simp) ?_
        simp only [List.toList_toArray]
        repeat (first
          | (apply Flo.skip; · rfl
             simp only [Act.put, List.setIfInBounds_toArray, List.set_cons_zero, List.set_cons_succ, hkz2])
          | (apply Flo.val; · rfl
             · (intro W hSw; obtain ⟨hs0, hs1, hs2, hs5, hs3⟩ := hSw; skip; replace hs5 := Lib.hid hs5; go_simp; (try with_reducible rfl))
             simp only [Act.put, List.setIfInBounds_toArray, List.set_cons_zero, List.set_cons_succ, hkz2])
          | (apply Flo.call; · rfl
             · (intro W hSw; obtain ⟨hs0, hs1, hs2, -, hs3⟩ := hSw; go_simp; first | exact ⟨rfl, rfl⟩ | with_reducible rfl)
             · (intro W hSw
                first
                 | (exact (hOf.out _).mono (fun e w'' h => ⟨h.1, keep3s hSw h.2⟩))
                 | (exact (hOfp.out _).mono (fun e w'' h => ⟨h.1, keep3s hSw h.2⟩))
                 | (exact (hAd.out _).mono (fun e w'' h => ⟨h.1, keep3s hSw h.2⟩)))
             simp only [Act.put, List.setIfInBounds_toArray, List.set_cons_zero, List.set_cons_succ, hkz2])
          | fail)
        intro W hSw
        replace hSw := Lib.hid hSw
        go_wp2_with fail
        go_roundw
        case rel => exact ⟨k + 1, by omega, by simp, Lib.hid (belowT hB.out hSw.out.2.2.2.1)⟩
        case measure => simp [intOf]; omega
      · have hkz2 : decide (0 < k) = true := by simp; omega
        have hp3 : k - 1 < l.length := by omega
        obtain ⟨e0, e1, e2⟩ := hcc (k - 1) hp3
        replace e0 := (kc _).trans e0
        replace e1 := (kc _).trans e1
        replace e2 := (kc _).trans e2
        have hlp := hlt.out (k - 1) (by omega)
        have hk1 : l[k - 1 + 1]'(by omega) = x := by rw [← hx]; congr 1; omega
        rw [hk1] at hlp
        obtain ⟨y, hy⟩ : ∃ y, l[k - 1]'hp3 = y := ⟨_, rfl⟩
        rw [hy] at e0 e1 e2 hlp
        have hw1 : IntKind.i64.wrap ((k : Int) - 1) = ((k - 1 : Nat) : Int) := by rw [wrap_small _ (by omega) (by omega)]; omega
        have hq0 : (0 : Int) ≤ ((k - 1 : Nat) : Int) := by omega
        have hq1 : ((k - 1 : Nat) : Int) < (N : Int) := by omega
        have hq2 : k - 1 < N := by omega
        have hge : Hid (∀ W : World, (binOp .geq 9 (.string ⟨y.1.toArray⟩) (.string ⟨x.1.toArray⟩)).run Try.prog W = .ok (.bool false) W) := Lib.hid fun W => by
          have h := geq_ndr y.1 x.1 W
          rw [show decide (y.1 < x.1) = true by simpa using hlp] at h
          exact h
        have hOfp : Hid (∀ W, Calls Try.prog 16 #[.agg #[.string ⟨y.1.toArray⟩, .bool y.2.1, .int .i64 y.2.2]] W fun e w' => e = .returned (.string ⟨y.1.toArray⟩) ∧ Below W.heap.size W w') := Lib.hid fun W => subOf_any y.1 y.2.1 y.2.2 W
        replace hz := Lib.hid hz
        replace hx := Lib.hid hx
        replace hy := Lib.hid hy
        replace hlp := Lib.hid hlp
        clear hcc kc hk1
        generalize hkm : k - 1 = km at e0 e1 e2 hw1 hq0 hq1 hq2
        replace hkm := Lib.hid hkm
        obtain ⟨xj, xp, xd⟩ := x
        obtain ⟨yj, yp, yd⟩ := y
        simp only at d0 d1 d2 e0 e1 e2 hAd hOf hOfp hge
        go_upto_region 4 with (fail)
        refine wp_region_float (by kernel_rfl) (by kernel_rfl) (fun W => W.cell? ⟨wr.heap.size, 0, none⟩ = some (.string ⟨xj.toArray⟩) ∧ W.cell? ⟨wr.heap.size, 1, none⟩ = some (.bool xp) ∧ W.cell? ⟨wr.heap.size, 2, none⟩ = some (.int .i64 xd) ∧ Below wr.heap.size wr W ∧ wr.heap.size < W.heap.size) (by refine ⟨?_, ?_, ?_, (below1 _ _).drew, ?_⟩ <;> simp) ?_
        simp only [List.toList_toArray]
        repeat (first
          | (apply Flo.skip; · rfl
             simp only [Act.put, List.setIfInBounds_toArray, List.set_cons_zero, List.set_cons_succ, hkz2])
          | (apply Flo.val; · rfl
             · (intro W hSw; obtain ⟨hs0, hs1, hs2, hs5, hs3⟩ := hSw; have q0 := (hs5.cell (p := ⟨b, o + km * 3, none⟩) hbw).trans e0; have q1 := (hs5.cell (p := ⟨b, o + km * 3 + 1, none⟩) hbw).trans e1; have q2 := (hs5.cell (p := ⟨b, o + km * 3 + 2, none⟩) hbw).trans e2; have hbW := Nat.lt_of_lt_of_le hbw hs5.size; have hgeW := hge.out W; replace hs5 := Lib.hid hs5; go_simp; (try with_reducible rfl))
             simp only [Act.put, List.setIfInBounds_toArray, List.set_cons_zero, List.set_cons_succ, hkz2])
          | (apply Flo.call; · rfl
             · (intro W hSw; obtain ⟨hs0, hs1, hs2, -, hs3⟩ := hSw; go_simp; first | exact ⟨rfl, rfl⟩ | with_reducible rfl)
             · (intro W hSw
                first
                 | (exact (hOf.out _).mono (fun e w'' h => ⟨h.1, keep3s hSw h.2⟩))
                 | (exact (hOfp.out _).mono (fun e w'' h => ⟨h.1, keep3s hSw h.2⟩))
                 | (exact (hAd.out _).mono (fun e w'' h => ⟨h.1, keep3s hSw h.2⟩)))
             simp only [Act.put, List.setIfInBounds_toArray, List.set_cons_zero, List.set_cons_succ, hkz2])
          | fail)
        intro W hSw
        replace hSw := Lib.hid hSw
        go_wp2_with fail
        go_roundw
        case rel => exact ⟨k + 1, by omega, by simp, Lib.hid (belowT hB.out hSw.out.2.2.2.1)⟩
        case measure => simp [intOf]; omega
    · have hki : ¬ (k : Int) < (N : Int) := by omega
      go_wp2
      go_ret
      exact ⟨rfl, hB.out⟩
end Go.Proofs.Ytoijpjmkjhoiaaa
