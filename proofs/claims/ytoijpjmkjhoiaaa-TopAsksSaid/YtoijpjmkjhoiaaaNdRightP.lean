/-
  A node without items that is right: the program says so (node.Right). Conditions: no collection, no parent; at most 16 affiliations and subscriptions whose addresses rise, one of an owner; depths from 0 to 255.
-/
import Derived.Test.YtoijpjmkjhoiaaaNdRise
import Derived.Test.YtoijpjmkjhoiaaaTtRight
namespace Go.Proofs.Ytoijpjmkjhoiaaa
set_option linter.unusedVariables false
set_option linter.unusedSimpArgs false
open Go.RowKit Go.MapKept Go.Shelf
def risesP {α : Type} (l : List (Tx × α)) : Prop := (∀ j (h : j < l.length), addrP (l[j]'h).1 = true ∧ (l[j]'h).1.length ≤ 140737488351232) ∧ ∀ j (h : j + 1 < l.length), (l[j]'(by omega)).1 < (l[j + 1]'h).1
theorem containsNo_any (v : Value) (l : List (Tx × Bool × Int)) (w : World) (hA : SuS w v l) (hl : l.length ≤ 16) (hd : ∀ s ∈ l, 0 ≤ s.2.2 ∧ s.2.2 ≤ 255) :
    Calls Try.prog 29 #[v, .func (.func 30) #[] #[]] w fun e w' => e = .returned (.bool false) ∧ Below w.heap.size w w' := by
  have eg := enters_of (P := Try.prog) Try.func30 (by kernel_rfl) rfl
  have hb := Lib.hid (ixSub_any v _ w hA (by omega) 30 #[] (fun s => decide (s.2.2 < 0) || decide (255 < s.2.2)) eg (fun W e _ => right1_any e W))
  have hno : Hid (∀ i, IxAt l (fun s => decide (s.2.2 < 0) || decide (255 < s.2.2)) i → i = -1) := Lib.hid (by
    rintro i (⟨rfl, -⟩ | ⟨k, -, hk, h, -⟩)
    · rfl
    · exfalso
      obtain ⟨h1, h2⟩ := hd _ (List.getElem_mem hk)
      have h3 : ¬ (l[k]'hk).2.2 < 0 := by omega
      have h4 : ¬ 255 < (l[k]'hk).2.2 := by omega
      simp [h3, h4] at h)
  obtain ⟨p, cap, rfl, -⟩ := hA
  replace hd := Lib.hid hd
  go_enter Try.func29, Try.ntmps29
  go_wp2_with (go_at_call 36; refine hb.out.mono ?_; rintro e w1 ⟨i, rfl, h1, h2⟩; obtain rfl := hno.out i h1; clear h1; replace h2 := Lib.hid h2)
  all_goals (go_ret; exact ⟨rfl, h2.out⟩)
set_option maxRecDepth 100000 in
set_option maxHeartbeats 8000000 in
theorem rightP_any (nm : Tx) (ac : Nat) (mx : Int) (afp sbp : Option Addr) (an afc sn sbc : Nat) (af : List (Tx × Nat)) (sb : List (Tx × Bool × Int)) (w : World) (hA : AfS w (.slice afp an afc) af) (hS : SuS w (.slice sbp sn sbc) sb)
    (hnm : nodeP nm = true) (hnl : nm.length ≤ 140737488351232) (hac : ac ≤ 2) (hmx : 0 ≤ mx ∧ mx ≤ 8) (ha16 : af.length ≤ 16) (hs16 : sb.length ≤ 16) (hra : risesP af) (hrs : risesP sb)
    (hro : ∀ e ∈ af, e.2 = 1 ∨ e.2 = 3 ∨ e.2 = 4 ∨ e.2 = 5) (how : ∃ e ∈ af, e.2 = 5) (hd : ∀ s ∈ sb, 0 ≤ s.2.2 ∧ s.2.2 ≤ 255) :
    Calls Try.prog 9 #[.agg #[.string ⟨nm.toArray⟩, .bool false, .int .u8 ac, .int .i64 mx, .slice afp an afc, .slice sbp sn sbc, .slice none 0 0, .string ⟨#[]⟩]] w fun e w' => e = .returned (.bool true) ∧ Below w.heap.size w w' := by
  have hmm := @run_makeMap Try.prog
  have hB0 := Lib.hid (below1 w (.cells #[.string ⟨nm.toArray⟩, .bool false, .int .u8 ac, .int .i64 mx, .slice afp an afc, .slice sbp sn sbc, .slice none 0 0, .string ⟨#[]⟩] 30))
  have hNm : Hid (∀ W, Calls Try.prog 25 #[.string ⟨nm.toArray⟩] W fun e w' => e = .returned (.bool true) ∧ Below W.heap.size W w') := Lib.hid fun W => by
    have := nodeName_any nm W hnl
    rwa [hnm] at this
  have hRa : Hid (∀ W, Below w.heap.size w W → Calls Try.prog 26 #[.slice afp an afc, .func (.func 21) #[] #[]] W fun e w' => e = .returned (.bool true) ∧ Below W.heap.size W w') := Lib.hid fun W h => riseAffP_any _ af W (hA.below h) ha16 hra.1 hra.2
  have hRs : Hid (∀ W, Below w.heap.size w W → Calls Try.prog 27 #[.slice sbp sn sbc, .func (.func 16) #[] #[]] W fun e w' => e = .returned (.bool true) ∧ Below W.heap.size W w') := Lib.hid fun W h => riseSubP_any _ sb W (hS.below h) hs16 hrs.1 hrs.2
  have hCo : Hid (∀ W, Below w.heap.size w W → Calls Try.prog 29 #[.slice sbp sn sbc, .func (.func 30) #[] #[]] W fun e w' => e = .returned (.bool false) ∧ Below W.heap.size W w') := Lib.hid fun W h => containsNo_any _ sb W (hS.below h) hs16 hd
  have haci : (ac : Int) ≤ 2 := by omega
  obtain ⟨hm0, hm8⟩ := hmx
  have hm1 : ¬ mx < 0 := by omega
  obtain ⟨N, hN⟩ : ∃ N, af.length = N := ⟨_, rfl⟩
  obtain ⟨p', c', he, -, -, hat⟩ := hA
  obtain ⟨rfl, rfl, rfl⟩ := Value.slice.inj he
  rw [hN] at hRa ha16 ⊢
  have hown : Hid ((af.take N).any (fun e => e.2 == 5) = true) := Lib.hid (by
    obtain ⟨e, he, h5⟩ := how
    rw [List.take_of_length_le (by omega), List.any_eq_true]
    exact ⟨e, he, by simp [h5]⟩)
  rw [hN] at hB0
  replace hN := Lib.hid hN
  replace hat := Lib.hid hat
  replace hro := Lib.hid hro
  replace hS := Lib.hid hS
  clear he hnm hra hrs how hd hs16
  go_enter Try.func9, Try.ntmps9
  go_wp2_with (first
    | (go_at_call 27; have m0 := hb2; refine (hRs.out _ hb2.out).mono ?_; rintro e w3 ⟨rfl, hb3⟩; obtain ⟨lc3, lf3⟩ := bat hb3 w.heap.size ll2; have ll3 := Nat.lt_of_lt_of_le ll2 hb3.size; replace hb3 := Lib.hid (belowT hb2.out hb3))
    | (go_at_call 26; have m0 := hb1; refine (hRa.out _ hb1.out).mono ?_; rintro e w2 ⟨rfl, hb2⟩; obtain ⟨lc2, lf2⟩ := bat hb2 w.heap.size ll1; have ll2 := Nat.lt_of_lt_of_le ll1 hb2.size; replace hb2 := Lib.hid (belowT hb1.out hb2))
    | (go_at_call 25; refine (hNm.out _).mono ?_; rintro e w1 ⟨rfl, hb1⟩; obtain ⟨lc1, lf1⟩ := bat hb1 w.heap.size (by simp); have ll1 : w.heap.size < w1.heap.size := (Nat.lt_of_lt_of_le (by simp) hb1.size); replace hb1 := Lib.hid (belowT hB0.out hb1)))
  have hbx : ∀ W, Below w3.heap.size w3 W → W.cell? ⟨w.heap.size, 5, none⟩ = some (.slice sbp sn sbc) ∧ W.cell? ⟨w.heap.size, 6, none⟩ = some (.slice none 0 0) ∧ w.heap.size < W.heap.size := fun W h => by
    refine ⟨((h.cell (p := ⟨w.heap.size, 5, none⟩) ll3).trans ((lc3 5).trans ((lc2 5).trans (lc1 5)))).trans ?_, ((h.cell (p := ⟨w.heap.size, 6, none⟩) ll3).trans ((lc3 6).trans ((lc2 6).trans (lc1 6)))).trans ?_, Nat.lt_of_lt_of_le ll3 h.size⟩
    · rw [(obj_cells (heap_alloc w _).1).1]; rfl
    · rw [(obj_cells (heap_alloc w _).1).1]; rfl
  clear lc1 lf1 ll1 lc2 lf2 ll2 lc3 lf3 hb1 hb2 hRa hRs hNm
  replace hbx := Lib.hid hbx
  go_loopw [5, 67] (fun s5 s67 wr => ∃ (k : Nat) (ow : Bool), k ≤ N ∧ s67 = .int .i64 k ∧ s5 = .bool ow ∧ Hid ((af.take k).any (fun e => e.2 == 5) = ow) ∧ Hid (Below w3.heap.size w3 wr)) (fun _ s67 _ => N - (intOf s67).toNat)
  case atStart => exact ⟨0, false, by omega, rfl, rfl, Lib.hid rfl, Lib.hid (Below.refl _ _)⟩
  case round =>
    obtain ⟨k, ow, hk, rfl, rfl, hOw, hB⟩ := hrel
    by_cases hlt : k < N
    · have hk3 : k < af.length := by have := hN.out; omega
      have hki : (k : Int) < (N : Int) := by omega
      have hk0 : (0 : Int) ≤ (k : Int) := by omega
      obtain ⟨b, o, rfl, hb, hcc⟩ := hat.out (by omega)
      obtain ⟨d0, d1⟩ := hcc k hk3
      have hbW := Nat.lt_of_lt_of_le hb (Nat.le_trans hb3.out.size hB.out.size)
      replace d0 := (hB.out.cell (p := ⟨b, _, none⟩) (Nat.lt_of_lt_of_le hb hb3.out.size)).trans ((hb3.out.cell (p := ⟨b, _, none⟩) hb).trans d0)
      replace d1 := (hB.out.cell (p := ⟨b, _, none⟩) (Nat.lt_of_lt_of_le hb hb3.out.size)).trans ((hb3.out.cell (p := ⟨b, _, none⟩) hb).trans d1)
      have hr := hro.out _ (List.getElem_mem hk3)
      have hst : (af.take (k + 1)).any (fun e => e.2 == 5) = ((af.take k).any (fun e => e.2 == 5) || (af[k]'hk3).2 == 5) := by
        rw [List.take_add_one, List.getElem?_eq_getElem hk3, List.any_append]; simp
      rw [hOw.out] at hst
      obtain ⟨x, hx⟩ : ∃ x, af[k]'hk3 = x := ⟨_, rfl⟩
      rw [hx] at d0 d1 hr hst
      obtain ⟨xj, xr⟩ := x
      simp only at d0 d1 hr hst
      replace hx := Lib.hid hx
      clear hcc
      rcases hr with rfl | rfl | rfl | rfl
      all_goals
        replace hst := Lib.hid hst
        go_wp2_with fail
        go_roundw
        case rel => exact ⟨k + 1, _, by omega, by simp, rfl, Lib.hid (by rw [hst.out]; simp), Lib.hid (belowA hB.out _)⟩
        case measure => simp [intOf]; omega
    · obtain rfl : k = N := by omega
      obtain rfl : ow = true := by rw [← hOw.out]; exact hown.out
      have hki : ¬ (k : Int) < (k : Int) := by omega
      obtain ⟨W5, hW5⟩ : ∃ W, W = wr := ⟨_, rfl⟩
      subst hW5
      have hB5 := Lib.hid (belowA hB.out (.map #[] 0))
      obtain ⟨x5, x6, x7⟩ := hbx.out _ hB5.out
      go_wp2_with fail
      go_loopw [84] (fun s84 wr => s84 = .int .i64 0 ∧ Hid (Below w3.heap.size w3 wr)) (fun _ _ => 0)
      case atStart => exact ⟨rfl, hB5⟩
      case round =>
        obtain ⟨rfl, hB6⟩ := hrel
        obtain ⟨y5, y6, y7⟩ := hbx.out _ hB6.out
        go_wp2_with (go_at_call 29; refine (hCo.out _ (belowT hb3.out hB6.out)).mono ?_; rintro e w7 ⟨rfl, hb7⟩; replace hb7 := Lib.hid hb7)
        go_ret
        exact ⟨rfl, belowT (belowT hb3.out hB6.out) hb7.out⟩
end Go.Proofs.Ytoijpjmkjhoiaaa
