/-
  The reference's Below. Condition: at most 1000 edges.
-/
import Derived.Test.YtgodmppmiamhaaaCoRef4
namespace Go.Proofs.Ytgodmppmiamhaaa
set_option linter.unusedVariables false
set_option linter.unusedSimpArgs false
open Go.RowKit Go.MapKept Go.Shelf
set_option maxHeartbeats 2000000 in
theorem refBelow_any (v : Value) (E : Ats) (s : Txt) (w : World) (hA : AtS w v E) (hl : E.length ≤ 1000) :
    Calls Try.prog 22 #[v, .string ⟨s.toArray⟩] w fun e w' => ∃ sv, e = .returned sv ∧ StS w' sv (belowE E s) ∧ Below w.heap.size w w' := by
  obtain ⟨i0, hi, hz0, hz1, hz2⟩ := info_parts infoSt
  have hR := Lib.hid (fun W1 (hb : Below w.heap.size w W1) => refRight_any _ E W1 (hA.below hb) hl)
  have hUp := Lib.hid (fun W1 c (hb : Below w.heap.size w W1) => refAbove_any v E c W1 (hA.below hb) hl)
  have hHas := Lib.hid (fun (v : Value) W1 c (hS : StS W1 v (aboveE E c)) => has_any v (aboveE E c) s W1 hS (Nat.le_trans (upF_len _ _) hl))
  obtain ⟨ptr, cap, rfl, hc1, hc2, hat⟩ := hA
  cases hr : rightE E with
  | false =>
    have hp : belowE E s = [] := by simp [belowE, hr]
    rw [hp]
    rw [hr] at hR
    clear hat
    go_enter Try.func22, Try.ntmps22
    go_wp2
    go_loopw [5, 6] (fun s5 s6 wr => s5 = .slice none 0 0 ∧ s6 = .int .i64 0 ∧ Hid (Below w.heap.size w wr)) (fun _ _ _ => 0)
    case atStart => exact ⟨rfl, rfl, Lib.hid (Below.refl _ _)⟩
    case round =>
      obtain ⟨rfl, rfl, hB⟩ := hrel
      go_wp2_with (go_at_call 28; refine (hR.out _ hB.out).mono ?_; rintro e w1 ⟨rfl, hb1⟩; replace hb1 := Lib.hid (belowT hB.out hb1))
      go_ret
      exact ⟨_, rfl, sts_nil _, hb1.out⟩
  | true =>
    obtain ⟨q, hq⟩ : ∃ q : Txt × Txt → Bool, q = fun e => isUpE E s e.1 := ⟨_, rfl⟩
    have hp : belowE E s = chE E q := by simp [belowE, hr, chE, hq]
    rw [hp]
    rw [hr] at hR
    obtain ⟨N, hN⟩ : ∃ N, E.length = N := ⟨_, rfl⟩
    rw [hN] at hR hl hUp ⊢
    replace hN := Lib.hid hN
    replace hat := Lib.hid hat
    replace hq := Lib.hid hq
    clear hc1 hc2 hp
    go_enter Try.func22, Try.ntmps22
    go_wp2
    go_loopw [5, 6] (fun s5 s6 wr => ∃ k : Nat, k ≤ N ∧ s6 = .int .i64 k ∧ Hid (wr.ownsRow w.heap.size 9 1 s5 (chE (E.take k) q).length (strC (chE (E.take k) q))) ∧ Hid (Below w.heap.size w wr)) (fun _ s6 _ => N - (intOf s6).toNat)
    case atStart => exact ⟨0, Nat.zero_le _, rfl, Lib.hid (World.ownsRow_nil _ _ _ _), Lib.hid (Below.refl _ _)⟩
    case round =>
      obtain ⟨k, hk, rfl, hO, hB⟩ := hrel
      obtain ⟨na, nc, rfl⟩ := owns_shp hO.out
      by_cases hlt : k < N
      · have hk3 : k < E.length := by have := hN.out; omega
        obtain ⟨b, o, rfl, hb, hcc⟩ := hat.out (by omega)
        have hcell := hcc k hk3
        have hsn := chE_snoc (q := q) hk3
        have hfl := chE_len E q k
        have hqq : q (E[k]'hk3) = (aboveE E (E[k]'hk3).1).contains s := by rw [hq.out]; rfl
        clear hcc
        generalize hE : E[k] = x at hcell hsn hqq
        obtain ⟨ch, pa⟩ := x
        simp only at hcell hsn hqq
        replace hE := Lib.hid hE
        replace hcell := Lib.hid hcell
        have hki : (k : Int) < (N : Int) := by omega
        have hk0 : (0 : Int) ≤ (k : Int) := by omega
        have hsz := hB.out.size
        replace hfl := Lib.hid hfl
        replace hsz := Lib.hid hsz
        have hHk := fun v W1 => hHas.out v W1 ch
        by_cases hx : (aboveE E ch).contains s = true
        · have hqt : q (ch, pa) = true := by rw [hqq]; exact hx
          rw [hx] at hHk
          replace hHk := Lib.hid hHk
          rw [hqt, if_pos rfl] at hsn
          replace hsn := Lib.hid hsn
          clear hqt hqq
          replace hx := Lib.hid hx
          go_wp2_with (first
            | (go_at_call 28; refine (hR.out _ hB.out).mono ?_; rintro e w1 ⟨rfl, hb1⟩
               have hO1 := owns_below hO.out hb1
               replace hb1 := belowT hB.out hb1
               have d0 := (hb1.cell (p := ⟨b, o + k * 2, none⟩) hb).trans hcell.out.1
               have hbw1 : b < w1.heap.size := Nat.lt_of_lt_of_le hb hb1.size
               replace hO1 := Lib.hid hO1
               replace hb1 := Lib.hid hb1)
            | (go_at_call 42; refine (hUp.out _ ch hb1.out).mono ?_; rintro e w2 ⟨sv, rfl, hS, hb2⟩; obtain ⟨sa, sn, sc, rfl⟩ : ∃ a n c', sv = .slice a n c' := (by obtain ⟨a, c, h, -⟩ := hS; exact ⟨a, _, c, h⟩)
               replace hO1 := Lib.hid (owns_below hO1.out hb2)
               replace hS := Lib.hid hS
               replace hb2 := Lib.hid (belowT hb1.out hb2))
            | (go_at_call 43; refine (hHk.out _ _ hS.out).mono ?_; rintro e w3 ⟨rfl, hb3⟩
               have hO3 := (owns_below hO1.out hb3).alloc (.cells #[.string ⟨ch.toArray⟩] 9)
               replace hb3 := belowT hb2.out hb3
               have e0 := (hb3.cell (p := ⟨b, o + k * 2, none⟩) hb).trans hcell.out.1
               have hs3 : w.heap.size ≤ w3.heap.size := hb3.size
               have hbw3 : b < w3.heap.size := Nat.lt_of_lt_of_le hb hs3
               replace hO3 := Lib.hid hO3
               replace hs3 := Lib.hid hs3
               replace hb3 := Lib.hid hb3)
            | (at_builtin; refine wpList_append_own _ rfl _ _ 35 rfl w.heap.size 9 i0 _ 1 16 Try.underlying35 hi hz0 hz1 hz2 rfl (by decide) _ _ _ rfl hO3.out ⟨w3.heap.size, 0, none⟩ 1 1 [.string ⟨ch.toArray⟩] rfl rfl (cell_one_new _ _ _) (by simp [Value.oneCell']) (by have := hfl.out; unfold maxLen; omega) (by have := hfl.out; omega) (by have := hs3.out; simp only [World.size_alloc]; omega) ?_
               intro v' w4 hO4 hg4 _
               have hb4 := (belowA hb3.out (.cells #[.string ⟨ch.toArray⟩] 9)).grown hg4 (by have := hs3.out; simp only [World.size_alloc]; omega) (fun k hk => (hO3.out.lt k hk).1)
               replace hO4 := Lib.hid hO4
               replace hb4 := Lib.hid hb4))
          go_roundw
          case rel =>
            refine ⟨k + 1, by omega, by simp, ?_, hb4⟩
            rw [hsn.out, List.length_append]
            simpa [strC] using hO4
          case measure => simp [intOf]; omega
        · have hx' : (aboveE E ch).contains s = false := by simpa using hx
          have hqt : q (ch, pa) = false := by rw [hqq]; exact hx'
          rw [hx'] at hHk
          replace hHk := Lib.hid hHk
          replace hx' := Lib.hid hx'
          rw [hqt] at hsn
          replace hsn := Lib.hid hsn
          clear hqt hqq
          replace hx := Lib.hid hx
          go_wp2_with (first
            | (go_at_call 28; refine (hR.out _ hB.out).mono ?_; rintro e w1 ⟨rfl, hb1⟩
               have hO1 := owns_below hO.out hb1
               replace hb1 := belowT hB.out hb1
               have d0 := (hb1.cell (p := ⟨b, o + k * 2, none⟩) hb).trans hcell.out.1
               have hbw1 : b < w1.heap.size := Nat.lt_of_lt_of_le hb hb1.size
               replace hO1 := Lib.hid hO1
               replace hb1 := Lib.hid hb1)
            | (go_at_call 42; refine (hUp.out _ ch hb1.out).mono ?_; rintro e w2 ⟨sv, rfl, hS, hb2⟩; obtain ⟨sa, sn, sc, rfl⟩ : ∃ a n c', sv = .slice a n c' := (by obtain ⟨a, c, h, -⟩ := hS; exact ⟨a, _, c, h⟩)
               replace hO1 := Lib.hid (owns_below hO1.out hb2)
               replace hS := Lib.hid hS
               replace hb2 := Lib.hid (belowT hb1.out hb2))
            | (go_at_call 43; refine (hHk.out _ _ hS.out).mono ?_; rintro e w3 ⟨rfl, hb3⟩
               have hO3 := owns_below hO1.out hb3
               replace hb3 := belowT hb2.out hb3
               replace hO3 := Lib.hid hO3
               replace hb3 := Lib.hid hb3))
          go_roundw
          case rel =>
            refine ⟨k + 1, by omega, by simp, ?_, hb3⟩
            rw [hsn.out, if_neg (by simp), List.append_nil]
            exact hO3
          case measure => simp [intOf]; omega
      · obtain rfl : k = N := by omega
        have e4 : E.take k = E := List.take_of_length_le (by have := hN.out; omega)
        rw [e4] at hO
        have hki : ¬ (k : Int) < (k : Int) := by omega
        go_wp2_with (go_at_call 28; refine (hR.out _ hB.out).mono ?_; rintro e w1 ⟨rfl, hb1⟩; have hO1 := Lib.hid (owns_sts (owns_below hO.out hb1)); replace hb1 := Lib.hid (belowT hB.out hb1))
        go_ret
        exact ⟨_, rfl, hO1.out, hb1.out⟩
end Go.Proofs.Ytgodmppmiamhaaa
