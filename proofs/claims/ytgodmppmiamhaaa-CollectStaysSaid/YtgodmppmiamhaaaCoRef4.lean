/-
  The reference's Parent, Above, Kids, Below. Condition: at most 1000 edges.
-/
import Derived.Test.YtgodmppmiamhaaaCoRef3
namespace Go.Proofs.Ytgodmppmiamhaaa
set_option linter.unusedVariables false
set_option linter.unusedSimpArgs false
open Go.RowKit Go.MapKept Go.Shelf
theorem refPar_any (v : Value) (E : Ats) (c : Txt) (w : World) (hA : AtS w v E) (hl : E.length ≤ 1000) :
    Calls Try.prog 17 #[v, .string ⟨c.toArray⟩] w fun e w' => e = .returned (.tuple #[.string ⟨((parR E c).getD []).toArray⟩, .bool (parR E c).isSome]) ∧ Below w.heap.size w w' := by
  have hR := Lib.hid (refRight_any _ E w hA hl)
  have hP := Lib.hid (fun W1 (hb : Below w.heap.size w W1) => refParent_any v E c W1 (hA.below hb) hl)
  obtain ⟨vp, vc, rfl⟩ : ∃ a c, v = .slice a E.length c := by obtain ⟨a, c, h, -⟩ := hA; exact ⟨a, c, h⟩
  clear hA
  cases hr : rightE E with
  | true =>
    have hp : parR E c = parE E c := by simp [parR, hr]
    rw [hp]
    rw [hr] at hR
    generalize parE E c = op at hP ⊢
    go_enter Try.func17, Try.ntmps17
    go_wp2_with (first
      | (go_at_call 28; refine hR.out.mono ?_; rintro e w1 ⟨rfl, hb1⟩; replace hb1 := Lib.hid hb1)
      | (go_at_call 40; refine (hP.out _ hb1.out).mono ?_; rintro e w2 ⟨rfl, hb2⟩; replace hb2 := Lib.hid (belowT hb1.out hb2)))
    go_ret2
    exact ⟨rfl, hb2.out⟩
  | false =>
    have hp : parR E c = none := by simp [parR, hr]
    rw [hp]
    rw [hr] at hR
    go_enter Try.func17, Try.ntmps17
    go_wp2_with (go_at_call 28; refine hR.out.mono ?_; rintro e w1 ⟨rfl, hb1⟩; replace hb1 := Lib.hid hb1)
    go_ret2
    exact ⟨rfl, hb1.out⟩
theorem refUps_any (v : Value) (E : Ats) (c : Txt) (w : World) (hA : AtS w v E) (hl : E.length ≤ 1000) :
    Calls Try.prog 21 #[v, .string ⟨c.toArray⟩] w fun e w' => ∃ sv, e = .returned sv ∧ StS w' sv (upsE E c) ∧ Below w.heap.size w w' := by
  have hR := Lib.hid (refRight_any _ E w hA hl)
  have hP := Lib.hid (fun W1 (hb : Below w.heap.size w W1) => refAbove_any v E c W1 (hA.below hb) hl)
  obtain ⟨vp, vc, rfl⟩ : ∃ a c, v = .slice a E.length c := by obtain ⟨a, c, h, -⟩ := hA; exact ⟨a, c, h⟩
  clear hA
  cases hr : rightE E with
  | true =>
    have hp : upsE E c = aboveE E c := by simp [upsE, hr]
    rw [hp]
    rw [hr] at hR
    generalize aboveE E c = op at hP ⊢
    go_enter Try.func21, Try.ntmps21
    go_wp2_with (first
      | (go_at_call 28; refine hR.out.mono ?_; rintro e w1 ⟨rfl, hb1⟩; replace hb1 := Lib.hid hb1)
      | (go_at_call 42; refine (hP.out _ hb1.out).mono ?_; rintro e w2 ⟨sv, rfl, hS, hb2⟩; obtain ⟨na, nn, nc, rfl⟩ : ∃ a n c', sv = .slice a n c' := (by obtain ⟨a, c, h, -⟩ := hS; exact ⟨a, _, c, h⟩); replace hS := Lib.hid hS; replace hb2 := Lib.hid (belowT hb1.out hb2)))
    go_ret
    exact ⟨_, rfl, hS.out, hb2.out⟩
  | false =>
    have hp : upsE E c = [] := by simp [upsE, hr]
    rw [hp]
    rw [hr] at hR
    go_enter Try.func21, Try.ntmps21
    go_wp2_with (go_at_call 28; refine hR.out.mono ?_; rintro e w1 ⟨rfl, hb1⟩; replace hb1 := Lib.hid hb1)
    go_ret
    exact ⟨_, rfl, sts_nil _, hb1.out⟩
set_option maxHeartbeats 2000000 in
theorem refKids_any (v : Value) (E : Ats) (s : Txt) (w : World) (hA : AtS w v E) (hl : E.length ≤ 1000) :
    Calls Try.prog 20 #[v, .string ⟨s.toArray⟩] w fun e w' => ∃ sv, e = .returned sv ∧ StS w' sv (kidsE E s) ∧ Below w.heap.size w w' := by
  obtain ⟨i0, hi, hz0, hz1, hz2⟩ := info_parts infoSt
  have hR := Lib.hid (fun W1 (hb : Below w.heap.size w W1) => refRight_any _ E W1 (hA.below hb) hl)
  obtain ⟨ptr, cap, rfl, hc1, hc2, hat⟩ := hA
  cases hr : rightE E with
  | false =>
    have hp : kidsE E s = [] := by simp [kidsE, hr]
    rw [hp]
    rw [hr] at hR
    clear hat
    go_enter Try.func20, Try.ntmps20
    go_wp2
    go_loopw [5, 6] (fun s5 s6 wr => s5 = .slice none 0 0 ∧ s6 = .int .i64 0 ∧ Hid (Below w.heap.size w wr)) (fun _ _ _ => 0)
    case atStart => exact ⟨rfl, rfl, Lib.hid (Below.refl _ _)⟩
    case round =>
      obtain ⟨rfl, rfl, hB⟩ := hrel
      go_wp2_with (go_at_call 28; refine (hR.out _ hB.out).mono ?_; rintro e w1 ⟨rfl, hb1⟩; replace hb1 := Lib.hid (belowT hB.out hb1))
      go_ret
      exact ⟨_, rfl, sts_nil _, hb1.out⟩
  | true =>
    obtain ⟨q, hq⟩ : ∃ q : Txt × Txt → Bool, q = fun e => e.2 == s := ⟨_, rfl⟩
    have hp : kidsE E s = chE E q := by simp [kidsE, hr, chE, hq]
    rw [hp]
    rw [hr] at hR
    obtain ⟨N, hN⟩ : ∃ N, E.length = N := ⟨_, rfl⟩
    rw [hN] at hR hl ⊢
    replace hN := Lib.hid hN
    replace hat := Lib.hid hat
    replace hq := Lib.hid hq
    clear hc1 hc2 hp
    go_enter Try.func20, Try.ntmps20
    go_wp2
    go_loopw [5, 6] (fun s5 s6 wr => ∃ k : Nat, k ≤ N ∧ s6 = .int .i64 k ∧ Hid (wr.ownsRow w.heap.size 9 1 s5 (chE (E.take k) q).length (strC (chE (E.take k) q))) ∧ Hid (Below w.heap.size w wr)) (fun _ s6 _ => N - (intOf s6).toNat)
    case atStart => exact ⟨0, Nat.zero_le _, rfl, Lib.hid (World.ownsRow_nil _ _ _ _), Lib.hid (Below.refl _ _)⟩
    case round =>
      obtain ⟨k, hk, rfl, hO, hB⟩ := hrel
      obtain ⟨na, nc, rfl⟩ := owns_shp hO.out
      by_cases hlt : k < N
      · have hk3 : k < E.length := by have := hN.out; omega
        obtain ⟨b, o, rfl, hb, hcc⟩ := hat.out (by omega)
        have hcell := hcc k hk3
        have hsn := chE_snoc (q := q) hk3
        have hfl := chE_len E q k
        have hqq : q (E[k]'hk3) = ((E[k]'hk3).2 == s) := by rw [hq.out]
        clear hcc
        generalize hE : E[k] = x at hcell hsn hqq
        obtain ⟨ch, pa⟩ := x
        simp only at hcell hsn hqq
        replace hE := Lib.hid hE
        replace hcell := Lib.hid hcell
        have hki : (k : Int) < (N : Int) := by omega
        have hk0 : (0 : Int) ≤ (k : Int) := by omega
        have hsz := hB.out.size
        replace hfl := Lib.hid hfl
        replace hsz := Lib.hid hsz
        by_cases hx : pa = s
        · have hqt : q (ch, pa) = true := by rw [hqq]; simpa using hx
          rw [hqt, if_pos rfl] at hsn
          replace hsn := Lib.hid hsn
          clear hqt hqq
          subst hx
          go_wp2_with (first
            | (go_at_call 28; refine (hR.out _ hB.out).mono ?_; rintro e w1 ⟨rfl, hb1⟩
               have hO1 := (owns_below hO.out hb1).alloc (.cells #[.string ⟨ch.toArray⟩] 9)
               replace hb1 := belowT hB.out hb1
               have d0 := (hb1.cell (p := ⟨b, o + k * 2, none⟩) hb).trans hcell.out.1
               have d1 := (hb1.cell (p := ⟨b, o + k * 2 + 1, none⟩) hb).trans hcell.out.2
               have hs1 : w.heap.size ≤ w1.heap.size := hb1.size
               have hbw : b < w1.heap.size := Nat.lt_of_lt_of_le hb hs1
               replace hO1 := Lib.hid hO1
               replace hs1 := Lib.hid hs1
               replace hb1 := Lib.hid hb1)
            | (at_builtin; refine wpList_append_own _ rfl _ _ 35 rfl w.heap.size 9 i0 _ 1 16 Try.underlying35 hi hz0 hz1 hz2 rfl (by decide) _ _ _ rfl hO1.out ⟨w1.heap.size, 0, none⟩ 1 1 [.string ⟨ch.toArray⟩] rfl rfl (cell_one_new _ _ _) (by simp [Value.oneCell']) (by have := hfl.out; unfold maxLen; omega) (by have := hfl.out; omega) (by have := hs1.out; simp only [World.size_alloc]; omega) ?_
               intro v' w2 hO2 hg2 _
               have hb2 := (belowA hb1.out (.cells #[.string ⟨ch.toArray⟩] 9)).grown hg2 (by have := hs1.out; simp only [World.size_alloc]; omega) (fun k hk => (hO1.out.lt k hk).1)
               replace hO2 := Lib.hid hO2
               replace hb2 := Lib.hid hb2))
          go_roundw
          case rel =>
            refine ⟨k + 1, by omega, by simp, ?_, hb2⟩
            rw [hsn.out, List.length_append]
            simpa [strC] using hO2
          case measure => simp [intOf]; omega
        · have hqt : q (ch, pa) = false := by rw [hqq]; simpa using hx
          rw [hqt] at hsn
          replace hsn := Lib.hid hsn
          clear hqt hqq
          have hxb : (pa == s) = false := by simpa using hx
          replace hx := Lib.hid hx
          go_wp2_with (go_at_call 28; refine (hR.out _ hB.out).mono ?_; rintro e w1 ⟨rfl, hb1⟩
                       have hO1 := (owns_below hO.out hb1)
                       replace hb1 := belowT hB.out hb1
                       have d0 := (hb1.cell (p := ⟨b, o + k * 2, none⟩) hb).trans hcell.out.1
                       have d1 := (hb1.cell (p := ⟨b, o + k * 2 + 1, none⟩) hb).trans hcell.out.2
                       have hbw : b < w1.heap.size := Nat.lt_of_lt_of_le hb hb1.size
                       replace hO1 := Lib.hid hO1
                       replace hb1 := Lib.hid hb1)
          go_roundw
          case rel =>
            refine ⟨k + 1, by omega, by simp, ?_, hb1⟩
            rw [hsn.out, if_neg (by simp), List.append_nil]
            exact hO1
          case measure => simp [intOf]; omega
      · obtain rfl : k = N := by omega
        have e4 : E.take k = E := List.take_of_length_le (by have := hN.out; omega)
        rw [e4] at hO
        have hki : ¬ (k : Int) < (k : Int) := by omega
        go_wp2_with (go_at_call 28; refine (hR.out _ hB.out).mono ?_; rintro e w1 ⟨rfl, hb1⟩; have hO1 := Lib.hid (owns_sts (owns_below hO.out hb1)); replace hb1 := Lib.hid (belowT hB.out hb1))
        go_ret
        exact ⟨_, rfl, hO1.out, hb1.out⟩
end Go.Proofs.Ytgodmppmiamhaaa
