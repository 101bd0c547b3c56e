/-
  A tree's root is right (node.Right), by the program. No condition.
-/
import Derived.Test.YtoijpjmkjhoiaaaTtRise
import Derived.Test.YtoijpjmkjhoiaaaNdName
import Derived.Scope
namespace Go.Proofs.Ytoijpjmkjhoiaaa
set_option linter.unusedVariables false
set_option linter.unusedSimpArgs false
open Go.RowKit Go.MapKept Go.Shelf
theorem right1_any (e : Tx × Bool × Int) (w : World) : Calls Try.prog 30 #[.agg #[.string ⟨e.1.toArray⟩, .bool e.2.1, .int .i64 e.2.2]] w fun r w' => r = .returned (.bool (decide (e.2.2 < 0) || decide (255 < e.2.2))) ∧ Below w.heap.size w w' := by
  obtain ⟨j, p, d⟩ := e
  simp only
  by_cases h : d < 0
  · go_enter Try.func30, Try.ntmps30
    go_wp2
    go_ret
    exact ⟨by rw [show decide (d < 0) = true by simpa using h]; rfl, below1 _ _⟩
  · go_enter Try.func30, Try.ntmps30
    go_wp2
    go_ret
    exact ⟨by rw [show decide (d < 0) = false by simpa using h]; rfl, below1 _ _⟩
theorem containsSub_any (v : Value) (two : Bool) (w : World) (hA : SuS w v ((rT, false, 0) :: if two then [(sT, false, 1)] else [])) :
    Calls Try.prog 29 #[v, .func (.func 30) #[] #[]] w fun e w' => e = .returned (.bool false) ∧ Below w.heap.size w w' := by
  have eg := enters_of (P := Try.prog) Try.func30 (by kernel_rfl) rfl
  have hb := Lib.hid (ixSub_any v _ w hA (by cases two <;> simp) 30 #[] (fun s => decide (s.2.2 < 0) || decide (255 < s.2.2)) eg (fun W e _ => right1_any e W))
  have hno : Hid (∀ i, IxAt ((rT, false, (0 : Int)) :: if two then [(sT, false, (1 : Int))] else []) (fun s => decide (s.2.2 < 0) || decide (255 < s.2.2)) i → i = -1) := Lib.hid (by
    rintro i (⟨rfl, -⟩ | ⟨k, -, hk, h, -⟩)
    · rfl
    · exfalso
      have hm := List.getElem_mem hk
      generalize (((rT, false, (0 : Int)) :: if two then [(sT, false, (1 : Int))] else []))[k] = z at hm h
      cases two
      · simp at hm; rw [hm] at h; revert h; decide
      · simp at hm; rcases hm with hm | hm <;> rw [hm] at h <;> revert h <;> decide)
  obtain ⟨p, cap, rfl, -⟩ := hA
  go_enter Try.func29, Try.ntmps29
  go_wp2_with (go_at_call 36; refine hb.out.mono ?_; rintro e w1 ⟨i, rfl, h1, h2⟩; obtain rfl := hno.out i h1; clear h1; replace h2 := Lib.hid h2)
  all_goals (go_ret; exact ⟨rfl, h2.out⟩)
set_option maxRecDepth 100000 in
set_option maxHeartbeats 8000000 in
theorem rightRoot_any (afp sbp : Option Addr) (afc sn sbc : Nat) (two : Bool) (w : World) (hA : AfS w (.slice afp 1 afc) [(oT, 5)]) (hS : SuS w (.slice sbp sn sbc) ((rT, false, 0) :: if two then [(sT, false, 1)] else [])) :
    Calls Try.prog 9 #[.agg #[.string ⟨#[97]⟩, .bool true, .int .u8 0, .int .i64 0, .slice afp 1 afc, .slice sbp sn sbc, .slice none 0 0, .string ⟨#[]⟩]] w fun e w' => e = .returned (.bool true) ∧ Below w.heap.size w w' := by
  have hmm := @run_makeMap Try.prog
  have hB0 := Lib.hid (below1 w (.cells #[.string ⟨#[97]⟩, .bool true, .int .u8 0, .int .i64 0, .slice afp 1 afc, .slice sbp sn sbc, .slice none 0 0, .string ⟨#[]⟩] 30))
  have hnm : nodeP [97] = true := by decide
  have hNm : Hid (∀ W, Calls Try.prog 25 #[.string ⟨#[97]⟩] W fun e w' => e = .returned (.bool true) ∧ Below W.heap.size W w') := Lib.hid fun W => by
    have := nodeName_any [97] W (by simp)
    rwa [hnm] at this
  have hRa : Hid (∀ W, Below w.heap.size w W → Calls Try.prog 26 #[.slice afp 1 afc, .func (.func 21) #[] #[]] W fun e w' => e = .returned (.bool true) ∧ Below W.heap.size W w') := Lib.hid fun W h => riseAff_any _ W (hA.below h)
  have hRs : Hid (∀ W, Below w.heap.size w W → Calls Try.prog 27 #[.slice sbp sn sbc, .func (.func 16) #[] #[]] W fun e w' => e = .returned (.bool true) ∧ Below W.heap.size W w') := Lib.hid fun W h => riseSub_any _ two W (hS.below h)
  have hCo : Hid (∀ W, Below w.heap.size w W → Calls Try.prog 29 #[.slice sbp sn sbc, .func (.func 30) #[] #[]] W fun e w' => e = .returned (.bool false) ∧ Below W.heap.size W w') := Lib.hid fun W h => containsSub_any _ two W (hS.below h)
  obtain ⟨p', c', he, -, -, hat⟩ := hA
  obtain ⟨rfl, -, rfl⟩ := Value.slice.inj he
  obtain ⟨ba, oa, rfl, hba, hcc⟩ := hat (by simp)
  obtain ⟨d0, d1⟩ := hcc 0 (by simp)
  simp only [List.getElem_cons_zero, Nat.zero_mul, Nat.add_zero] at d0 d1
  generalize oT = J at d0
  replace hS := Lib.hid hS
  clear hcc hat he hnm
  go_enter Try.func9, Try.ntmps9
  go_wp2_with (first
    | (go_at_call 27; have m0 := hb2; refine (hRs.out _ hb2.out).mono ?_; rintro e w3 ⟨rfl, hb3⟩; obtain ⟨lc3, lf3⟩ := bat hb3 w.heap.size ll2; have ll3 := Nat.lt_of_lt_of_le ll2 hb3.size; replace hb3 := Lib.hid (belowT hb2.out hb3))
    | (go_at_call 26; have m0 := hb1; refine (hRa.out _ hb1.out).mono ?_; rintro e w2 ⟨rfl, hb2⟩; obtain ⟨lc2, lf2⟩ := bat hb2 w.heap.size ll1; have ll2 := Nat.lt_of_lt_of_le ll1 hb2.size; replace hb2 := Lib.hid (belowT hb1.out hb2))
    | (go_at_call 25; refine (hNm.out _).mono ?_; rintro e w1 ⟨rfl, hb1⟩; obtain ⟨lc1, lf1⟩ := bat hb1 w.heap.size (by simp); have ll1 : w.heap.size < w1.heap.size := (Nat.lt_of_lt_of_le (by simp) hb1.size); replace hb1 := Lib.hid (belowT hB0.out hb1)))
  have hbx : ∀ W, Below w3.heap.size w3 W → W.cell? ⟨w.heap.size, 5, none⟩ = some (.slice sbp sn sbc) ∧ W.cell? ⟨w.heap.size, 6, none⟩ = some (.slice none 0 0) ∧ w.heap.size < W.heap.size := fun W h => by
    refine ⟨((h.cell (p := ⟨w.heap.size, 5, none⟩) ll3).trans ((lc3 5).trans ((lc2 5).trans (lc1 5)))).trans ?_, ((h.cell (p := ⟨w.heap.size, 6, none⟩) ll3).trans ((lc3 6).trans ((lc2 6).trans (lc1 6)))).trans ?_, Nat.lt_of_lt_of_le ll3 h.size⟩
    · rw [(obj_cells (heap_alloc w _).1).1]; rfl
    · rw [(obj_cells (heap_alloc w _).1).1]; rfl
  have e0 := (hb3.out.cell (p := ⟨ba, oa, none⟩) hba).trans d0
  have e1 := (hb3.out.cell (p := ⟨ba, oa + 1, none⟩) hba).trans d1
  have hba3 := Nat.lt_of_lt_of_le hba hb3.out.size
  clear lc1 lf1 ll1 lc2 lf2 ll2 lc3 lf3 d0 d1 hb1 hb2 hRa hRs hNm
  replace hbx := Lib.hid hbx
  go_loopw [5, 67] (fun s5 s67 wr => ∃ k : Nat, k ≤ 1 ∧ s67 = .int .i64 k ∧ s5 = .bool (decide (0 < k)) ∧ Hid (Below w3.heap.size w3 wr)) (fun _ s67 _ => 1 - (intOf s67).toNat)
  case atStart => exact ⟨0, by omega, rfl, rfl, Lib.hid (Below.refl _ _)⟩
  case round =>
    obtain ⟨k, hk, rfl, rfl, hB⟩ := hrel
    by_cases hlt : k < 1
    · have hk2 : k = 0 := by omega
      have hki : (k : Int) < 1 := by omega
      have hk0 : (0 : Int) ≤ (k : Int) := by omega
      have c0 := (hB.out.cell (p := ⟨ba, oa, none⟩) hba3).trans e0
      have c1 := (hB.out.cell (p := ⟨ba, oa + 1, none⟩) hba3).trans e1
      have c0' : wr.cell? ⟨ba, oa + k * 2, none⟩ = some (.string ⟨J.toArray⟩) := by rw [hk2]; exact c0
      have c1' : wr.cell? ⟨ba, oa + k * 2 + 1, none⟩ = some (.int .u8 5) := by rw [hk2]; exact c1
      have hbw := Nat.lt_of_lt_of_le hba3 hB.out.size
      clear c0 c1 e0 e1
      replace hk2 := Lib.hid hk2
      go_wp2_with fail
      go_roundw
      case rel => exact ⟨k + 1, by omega, by simp, by simp, Lib.hid (belowA hB.out _)⟩
      case measure => simp [intOf]; omega
    · have hk1 : decide (0 < k) = true := by simp; omega
      have hki : ¬ (k : Int) < 1 := by omega
      obtain ⟨W5, hW5⟩ : ∃ W, W = wr := ⟨_, rfl⟩
      subst hW5
      rw [hk1]
      have hB5 := Lib.hid (belowA hB.out (.map #[] 0))
      obtain ⟨x5, x6, x7⟩ := hbx.out _ hB5.out
      replace hk1 := Lib.hid hk1
      go_wp2_with fail
      go_loopw [84] (fun s84 wr => s84 = .int .i64 0 ∧ Hid (Below w3.heap.size w3 wr)) (fun _ _ => 0)
      case atStart => exact ⟨rfl, hB5⟩
      case round =>
        obtain ⟨rfl, hB6⟩ := hrel
        obtain ⟨y5, y6, y7⟩ := hbx.out _ hB6.out
        go_wp2_with (go_at_call 29; refine (hCo.out _ (belowT hb3.out hB6.out)).mono ?_; rintro e w7 ⟨rfl, hb7⟩; replace hb7 := Lib.hid hb7)
        go_ret
        exact ⟨rfl, belowT (belowT hb3.out hB6.out) hb7.out⟩
end Go.Proofs.Ytoijpjmkjhoiaaa
