/-
  The addresses of a tree's nodes rise (node.rising), by the program. No condition.
-/
import Derived.Test.YtoijpjmkjhoiaaaTtPure
import Derived.Test.YtoijpjmkjhoiaaaFnRole
import Derived.Test.YtoijpjmkjhoiaaaNdAddr
import Derived.Test.YtoijpjmkjhoiaaaFloat
namespace Go.Proofs.Ytoijpjmkjhoiaaa
set_option linter.unusedVariables false
set_option linter.unusedSimpArgs false
open Go.RowKit Go.MapKept Go.Shelf
theorem affOf_any (j : Tx) (r : Nat) (w : World) : Calls Try.prog 21 #[.agg #[.string ⟨j.toArray⟩, .int .u8 r]] w fun e w' => e = .returned (.string ⟨j.toArray⟩) ∧ Below w.heap.size w w' := by
  go_enter Try.func21, Try.ntmps21
  go_wp2
  go_ret
  exact ⟨rfl, below1 _ _⟩
theorem subOf_any (j : Tx) (p : Bool) (d : Int) (w : World) : Calls Try.prog 16 #[.agg #[.string ⟨j.toArray⟩, .bool p, .int .i64 d]] w fun e w' => e = .returned (.string ⟨j.toArray⟩) ∧ Below w.heap.size w w' := by
  go_enter Try.func16, Try.ntmps16
  go_wp2
  go_ret
  exact ⟨rfl, below1 _ _⟩
theorem keep2 {w W w' : World} {B : Nat} {x y : Value} (h : W.cell? ⟨B, 0, none⟩ = some x ∧ W.cell? ⟨B, 1, none⟩ = some y ∧ Below w.heap.size w W ∧ B < W.heap.size) (hb : Below W.heap.size W w') : w'.cell? ⟨B, 0, none⟩ = some x ∧ w'.cell? ⟨B, 1, none⟩ = some y ∧ Below w.heap.size w w' ∧ B < w'.heap.size := by
  obtain ⟨h1, h2, h3, h4⟩ := h
  obtain ⟨hc, -⟩ := bat hb B h4
  exact ⟨(hc 0).trans h1, (hc 1).trans h2, belowT h3 hb, Nat.lt_of_lt_of_le h4 hb.size⟩
set_option maxRecDepth 100000 in
set_option maxHeartbeats 4000000 in
theorem riseAff_any (v : Value) (w : World) (hA : AfS w v [(oT, 5)]) :
    Calls Try.prog 26 #[v, .func (.func 21) #[] #[]] w fun e w' => e = .returned (.bool true) ∧ Below w.heap.size w w' := by
  have eg := enters_of (P := Try.prog) Try.func21 (by kernel_rfl) rfl
  have hadd : addrP oT = true := by decide +kernel
  have hAd : Hid (∀ W, Calls Try.prog 10 #[.string ⟨oT.toArray⟩] W fun e w' => e = .returned (.bool true) ∧ Below W.heap.size W w') := Lib.hid fun W => by
    have := address_any oT W (by decide)
    rwa [hadd] at this
  have hOf : Hid (∀ W, Calls Try.prog 21 #[.agg #[.string ⟨oT.toArray⟩, .int .u8 5]] W fun e w' => e = .returned (.string ⟨oT.toArray⟩) ∧ Below W.heap.size W w') := Lib.hid fun W => affOf_any oT 5 W
  obtain ⟨ptr, cap, rfl, hc1, hc2, hat⟩ := hA
  obtain ⟨b, o, rfl, hb, hcc⟩ := hat (by simp)
  obtain ⟨d0, d1⟩ := hcc 0 (by simp)
  simp only [List.getElem_cons_zero, Nat.zero_mul, Nat.add_zero] at d0 d1
  clear hcc hat hc1 hc2 hadd
  generalize oT = J at hAd hOf d0
  go_enter Try.func26, Try.ntmps26
  go_wp2
  go_loopw [9] (fun s9 wr => ∃ k : Nat, k ≤ 1 ∧ s9 = .int .i64 k ∧ Hid (Below w.heap.size w wr)) (fun s9 _ => 1 - (intOf s9).toNat)
  case atStart => exact ⟨0, by omega, rfl, Lib.hid (Below.refl _ _)⟩
  case round =>
    obtain ⟨k, hk, rfl, hB⟩ := hrel
    by_cases hlt : k < 1
    · have hki : (k : Int) < 1 := by omega
      have hk0 : (0 : Int) ≤ (k : Int) := by omega
      have hkz : ¬ (0 : Int) < (k : Int) := by omega
      have hk2 : k = 0 := by omega
      have hkz2 : decide (0 < k) = false := by simp [hk2]
      have c0 := (hB.out.cell (p := ⟨b, o, none⟩) hb).trans d0
      have c1 := (hB.out.cell (p := ⟨b, o + 1, none⟩) hb).trans d1
      have c0' : wr.cell? ⟨b, o + k * 2, none⟩ = some (.string ⟨J.toArray⟩) := by rw [hk2]; exact c0
      have c1' : wr.cell? ⟨b, o + k * 2 + 1, none⟩ = some (.int .u8 5) := by rw [hk2]; exact c1
      have hbw := Nat.lt_of_lt_of_le hb hB.out.size
      clear c0 c1 d0 d1
      replace hk2 := Lib.hid hk2
      go_upto_region 4 with (fail)
      refine wp_region_float (by kernel_rfl) (by kernel_rfl) (fun W => W.cell? ⟨wr.heap.size, 0, none⟩ = some (.string ⟨J.toArray⟩) ∧ W.cell? ⟨wr.heap.size, 1, none⟩ = some (.int .u8 5) ∧ Below wr.heap.size wr W ∧ wr.heap.size < W.heap.size) (by refine ⟨?_, ?_, (below1 _ _).drew, ?_⟩ <;> simp) ?_
      simp only [List.toList_toArray]
      repeat (first
        | (apply Flo.skip; · rfl
           simp only [Act.put, List.setIfInBounds_toArray, List.set_cons_zero, List.set_cons_succ, hkz2])
        | (apply Flo.val; · rfl
           · (intro W hSw; obtain ⟨hs0, hs1, -, hs3⟩ := hSw; go_simp; (try with_reducible rfl))
           simp only [Act.put, List.setIfInBounds_toArray, List.set_cons_zero, List.set_cons_succ, hkz2])
        | (apply Flo.call; · rfl
           · (intro W hSw; obtain ⟨hs0, hs1, -, hs3⟩ := hSw; go_simp; first | exact ⟨rfl, rfl⟩ | with_reducible rfl)
           · (intro W hSw
              first
               | (exact (hOf.out _).mono (fun e w'' h => ⟨h.1, keep2 hSw h.2⟩))
               | (exact (hAd.out _).mono (fun e w'' h => ⟨h.1, keep2 hSw h.2⟩)))
           simp only [Act.put, List.setIfInBounds_toArray, List.set_cons_zero, List.set_cons_succ, hkz2])
        | fail)
      intro W hSw
      replace hSw := Lib.hid hSw
      go_wp2_with fail
      go_roundw
      case rel => exact ⟨k + 1, by omega, by simp, Lib.hid (belowT hB.out hSw.out.2.2.1)⟩
      case measure => simp [intOf]; omega
    · have hki : ¬ (k : Int) < 1 := by omega
      go_wp2
      go_ret
      exact ⟨rfl, hB.out⟩
theorem keep3s {w W w' : World} {B : Nat} {x y z : Value} (h : W.cell? ⟨B, 0, none⟩ = some x ∧ W.cell? ⟨B, 1, none⟩ = some y ∧ W.cell? ⟨B, 2, none⟩ = some z ∧ Below w.heap.size w W ∧ B < W.heap.size) (hb : Below W.heap.size W w') : w'.cell? ⟨B, 0, none⟩ = some x ∧ w'.cell? ⟨B, 1, none⟩ = some y ∧ w'.cell? ⟨B, 2, none⟩ = some z ∧ Below w.heap.size w w' ∧ B < w'.heap.size := by
  obtain ⟨h1, h2, h5, h3, h4⟩ := h
  obtain ⟨hc, -⟩ := bat hb B h4
  exact ⟨(hc 0).trans h1, (hc 1).trans h2, (hc 2).trans h5, belowT h3 hb, Nat.lt_of_lt_of_le h4 hb.size⟩
set_option maxRecDepth 100000 in
set_option maxHeartbeats 8000000 in
theorem riseSub_any (v : Value) (two : Bool) (w : World) (hA : SuS w v ((rT, false, 0) :: if two then [(sT, false, 1)] else [])) :
    Calls Try.prog 27 #[v, .func (.func 16) #[] #[]] w fun e w' => e = .returned (.bool true) ∧ Below w.heap.size w w' := by
  have eg := enters_of (P := Try.prog) Try.func16 (by kernel_rfl) rfl
  have haddr : addrP rT = true := by decide +kernel
  have hadds : addrP sT = true := by decide +kernel
  have hAdr : Hid (∀ W, Calls Try.prog 10 #[.string ⟨rT.toArray⟩] W fun e w' => e = .returned (.bool true) ∧ Below W.heap.size W w') := Lib.hid fun W => by
    have := address_any rT W (by decide)
    rwa [haddr] at this
  have hAds : Hid (∀ W, Calls Try.prog 10 #[.string ⟨sT.toArray⟩] W fun e w' => e = .returned (.bool true) ∧ Below W.heap.size W w') := Lib.hid fun W => by
    have := address_any sT W (by decide)
    rwa [hadds] at this
  have hOf0 : Hid (∀ W, Calls Try.prog 16 #[.agg #[.string ⟨rT.toArray⟩, .bool false, .int .i64 0]] W fun e w' => e = .returned (.string ⟨rT.toArray⟩) ∧ Below W.heap.size W w') := Lib.hid fun W => subOf_any rT false 0 W
  have hOfs : Hid (∀ W, Calls Try.prog 16 #[.agg #[.string ⟨sT.toArray⟩, .bool false, .int .i64 1]] W fun e w' => e = .returned (.string ⟨sT.toArray⟩) ∧ Below W.heap.size W w') := Lib.hid fun W => subOf_any sT false 1 W
  have hge : ∀ W : World, (binOp .geq 9 (.string ⟨rT.toArray⟩) (.string ⟨sT.toArray⟩)).run Try.prog W = .ok (.bool false) W := fun W => by kernel_rfl
  obtain ⟨N, hN⟩ : ∃ N, ((rT, false, (0 : Int)) :: if two then [(sT, false, (1 : Int))] else []).length = N := ⟨_, rfl⟩
  have hN2 : N = if two then 2 else 1 := by rw [← hN]; cases two <;> rfl
  obtain ⟨ptr, cap, rfl, hc1, hc2, hat⟩ := hA
  obtain ⟨b, o, rfl, hb, hcc⟩ := hat (by simp)
  obtain ⟨d0, d1, d2⟩ := hcc 0 (by simp)
  have he : two = true → w.cell? ⟨b, o + 1 * 3, none⟩ = some (.string ⟨sT.toArray⟩) ∧ w.cell? ⟨b, o + 1 * 3 + 1, none⟩ = some (.bool false) ∧ w.cell? ⟨b, o + 1 * 3 + 2, none⟩ = some (.int .i64 1) := fun h => by
    subst h
    exact hcc 1 (by simp)
  simp only [List.getElem_cons_zero] at d0 d1 d2
  have hNle : N ≤ 2 := by rw [hN2]; split <;> omega
  have hN16 : (N : Int) ≤ 16 := by omega
  have htwo : Hid (1 < N → two = true) := Lib.hid (fun h => by cases two <;> simp at hN2 ⊢; omega)
  replace he := Lib.hid he
  rw [hN]
  clear hcc hat hc1 hc2 haddr hadds hN hN2
  generalize rT = J0 at hAdr hOf0 hge d0
  generalize sT = J1 at hAds hOfs hge he
  replace hge := Lib.hid hge
  go_enter Try.func27, Try.ntmps27
  go_wp2
  go_loopw [9] (fun s9 wr => ∃ k : Nat, k ≤ N ∧ s9 = .int .i64 k ∧ Hid (Below w.heap.size w wr)) (fun s9 _ => N - (intOf s9).toNat)
  case atStart => exact ⟨0, by omega, rfl, Lib.hid (Below.refl _ _)⟩
  case round =>
    obtain ⟨k, hk, rfl, hB⟩ := hrel
    by_cases hlt : k < N
    · by_cases hz : k = 0
      · have hk2 : k = 0 := by omega
        have c0 := (hB.out.cell (p := ⟨b, o + 0 * 3, none⟩) hb).trans d0
        have c1 := (hB.out.cell (p := ⟨b, o + 0 * 3 + 1, none⟩) hb).trans d1
        have c2 := (hB.out.cell (p := ⟨b, o + 0 * 3 + 2, none⟩) hb).trans d2
        have c0' : wr.cell? ⟨b, o + k * 3, none⟩ = some (.string ⟨J0.toArray⟩) := by rw [hk2]; exact c0
        have c1' : wr.cell? ⟨b, o + k * 3 + 1, none⟩ = some (.bool false) := by rw [hk2]; exact c1
        have c2' : wr.cell? ⟨b, o + k * 3 + 2, none⟩ = some (.int .i64 0) := by rw [hk2]; exact c2
        have hki : (k : Int) < (N : Int) := by omega
        have hk0 : (0 : Int) ≤ (k : Int) := by omega
        have hkz2 : decide (0 < k) = false := by simp [hk2]
        have hbw := Nat.lt_of_lt_of_le hb hB.out.size
        have hAd := hAdr
        have hOf := hOf0
        clear c0 c1 c2 d0 d1 d2
        replace hk2 := Lib.hid hk2
        clear hz
        go_upto_region 4 with (fail)
        refine wp_region_float (by kernel_rfl) (by kernel_rfl) (fun W => W.cell? ⟨wr.heap.size, 0, none⟩ = some (.string ⟨J0.toArray⟩) ∧ W.cell? ⟨wr.heap.size, 1, none⟩ = some (.bool false) ∧ W.cell? ⟨wr.heap.size, 2, none⟩ = some (.int .i64 0) ∧ Below wr.heap.size wr W ∧ wr.heap.size < W.heap.size) (by refine ⟨?_, ?_, ?_, (below1 _ _).drew, ?_⟩ <;> simp) ?_
        simp only [List.toList_toArray]
        repeat (first
          | (apply Flo.skip; · rfl
             simp only [Act.put, List.setIfInBounds_toArray, List.set_cons_zero, List.set_cons_succ, hkz2])
          | (apply Flo.val; · rfl
             · (intro W hSw; obtain ⟨hs0, hs1, hs2, hs5, hs3⟩ := hSw; skip; replace hs5 := Lib.hid hs5; go_simp; (try with_reducible rfl))
             simp only [Act.put, List.setIfInBounds_toArray, List.set_cons_zero, List.set_cons_succ, hkz2])
          | (apply Flo.call; · rfl
             · (intro W hSw; obtain ⟨hs0, hs1, hs2, -, hs3⟩ := hSw; go_simp; first | exact ⟨rfl, rfl⟩ | with_reducible rfl)
             · (intro W hSw
                first
                 | (exact (hOf.out _).mono (fun e w'' h => ⟨h.1, keep3s hSw h.2⟩))
                 | (exact (hOf0.out _).mono (fun e w'' h => ⟨h.1, keep3s hSw h.2⟩))
                 | (exact (hAd.out _).mono (fun e w'' h => ⟨h.1, keep3s hSw h.2⟩)))
             simp only [Act.put, List.setIfInBounds_toArray, List.set_cons_zero, List.set_cons_succ, hkz2])
          | fail)
        intro W hSw
        replace hSw := Lib.hid hSw
        go_wp2_with fail
        go_roundw
        case rel => exact ⟨k + 1, by omega, by simp, Lib.hid (belowT hB.out hSw.out.2.2.2.1)⟩
        case measure => simp [intOf]; omega
      · obtain ⟨e0, e1, e2⟩ := he.out (htwo.out (by omega))
        have hk2 : k = 1 := by omega
        have c0 := (hB.out.cell (p := ⟨b, o + 1 * 3, none⟩) hb).trans e0
        have c1 := (hB.out.cell (p := ⟨b, o + 1 * 3 + 1, none⟩) hb).trans e1
        have c2 := (hB.out.cell (p := ⟨b, o + 1 * 3 + 2, none⟩) hb).trans e2
        have c0' : wr.cell? ⟨b, o + k * 3, none⟩ = some (.string ⟨J1.toArray⟩) := by rw [hk2]; exact c0
        have c1' : wr.cell? ⟨b, o + k * 3 + 1, none⟩ = some (.bool false) := by rw [hk2]; exact c1
        have c2' : wr.cell? ⟨b, o + k * 3 + 2, none⟩ = some (.int .i64 1) := by rw [hk2]; exact c2
        have hki : (k : Int) < (N : Int) := by omega
        have hk0 : (0 : Int) ≤ (k : Int) := by omega
        have hkz2 : decide (0 < k) = true := by simp [hk2]
        have hbw := Nat.lt_of_lt_of_le hb hB.out.size
        have hAd := hAds
        have hOf := hOfs
        have f0 := (hB.out.cell (p := ⟨b, o, none⟩) hb).trans (by simpa using d0)
        have f1 := (hB.out.cell (p := ⟨b, o + 1, none⟩) hb).trans (by simpa using d1)
        have f2 := (hB.out.cell (p := ⟨b, o + 2, none⟩) hb).trans (by simpa using d2)
        have hw1 : IntKind.i64.wrap ((k : Int) - 1) = 0 := by rw [hk2]; rfl
        have hN0 : 0 < N := by omega
        clear c0 c1 c2 d0 d1 d2 e0 e1 e2
        replace hk2 := Lib.hid hk2
        clear hz
        go_upto_region 4 with (fail)
        refine wp_region_float (by kernel_rfl) (by kernel_rfl) (fun W => W.cell? ⟨wr.heap.size, 0, none⟩ = some (.string ⟨J1.toArray⟩) ∧ W.cell? ⟨wr.heap.size, 1, none⟩ = some (.bool false) ∧ W.cell? ⟨wr.heap.size, 2, none⟩ = some (.int .i64 1) ∧ Below wr.heap.size wr W ∧ wr.heap.size < W.heap.size) (by refine ⟨?_, ?_, ?_, (below1 _ _).drew, ?_⟩ <;> simp) ?_
        simp only [List.toList_toArray]
        repeat (first
          | (apply Flo.skip; · rfl
             simp only [Act.put, List.setIfInBounds_toArray, List.set_cons_zero, List.set_cons_succ, hkz2])
          | (apply Flo.val; · rfl
             · (intro W hSw; obtain ⟨hs0, hs1, hs2, hs5, hs3⟩ := hSw; have q0 := (hs5.cell (p := ⟨b, o, none⟩) hbw).trans f0; have q1 := (hs5.cell (p := ⟨b, o + 1, none⟩) hbw).trans f1; have q2 := (hs5.cell (p := ⟨b, o + 2, none⟩) hbw).trans f2; have hbW := Nat.lt_of_lt_of_le hbw hs5.size; have hgeW := hge.out W; replace hs5 := Lib.hid hs5; go_simp; (try with_reducible rfl))
             simp only [Act.put, List.setIfInBounds_toArray, List.set_cons_zero, List.set_cons_succ, hkz2])
          | (apply Flo.call; · rfl
             · (intro W hSw; obtain ⟨hs0, hs1, hs2, -, hs3⟩ := hSw; go_simp; first | exact ⟨rfl, rfl⟩ | with_reducible rfl)
             · (intro W hSw
                first
                 | (exact (hOf.out _).mono (fun e w'' h => ⟨h.1, keep3s hSw h.2⟩))
                 | (exact (hOf0.out _).mono (fun e w'' h => ⟨h.1, keep3s hSw h.2⟩))
                 | (exact (hAd.out _).mono (fun e w'' h => ⟨h.1, keep3s hSw h.2⟩)))
             simp only [Act.put, List.setIfInBounds_toArray, List.set_cons_zero, List.set_cons_succ, hkz2])
          | fail)
        intro W hSw
        replace hSw := Lib.hid hSw
        go_wp2_with fail
        go_roundw
        case rel => exact ⟨k + 1, by omega, by simp, Lib.hid (belowT hB.out hSw.out.2.2.2.1)⟩
        case measure => simp [intOf]; omega
    · have hki : ¬ (k : Int) < (N : Int) := by omega
      go_wp2
      go_ret
      exact ⟨rfl, hB.out⟩
end Go.Proofs.Ytoijpjmkjhoiaaa
