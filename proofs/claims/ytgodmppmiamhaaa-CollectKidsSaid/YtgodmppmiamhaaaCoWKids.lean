/-
  The walk of CollectKids. Printed by wip/tools/gencollect3.py.
-/
import Derived.Test.YtgodmppmiamhaaaCoWBoth
import Derived.Test.YtgodmppmiamhaaaFloat
namespace Go.Proofs.Ytgodmppmiamhaaa
set_option linter.unusedVariables false
set_option linter.unusedSimpArgs false
open Go.RowKit Go.MapKept Go.Shelf
theorem any_snoc {α : Type} {l : List α} {k : Nat} (h : k < l.length) (f : α → Bool) : (l.take (k + 1)).any f = ((l.take k).any f || f (l[k]'h)) := by
  rw [List.take_add_one, List.getElem?_eq_getElem h, List.any_append]
  simp
theorem kids_facts (F : Ats) (s x : Txt) (hx : x ∈ kidsE F s) : parR F x = some s ∧ (belowE F s).contains x = true := by
  cases h : rightE F with
  | false => simp [kidsE, h] at hx
  | true => exact ⟨by rw [parR, if_pos h]; exact (mem_kids h s x).1 hx, List.contains_iff_mem.2 (kid_below h s x hx)⟩
theorem below_facts (F : Ats) (s x : Txt) (hx : x ∈ belowE F s) : (kidsE F s).contains x = true ∨ ∃ q ∈ kidsE F s, (belowE F q).contains x = true := by
  cases h : rightE F with
  | false => simp [belowE, h] at hx
  | true =>
    rcases below_kid h s x hx with h1 | ⟨q, h1, h2⟩
    · exact .inl (List.contains_iff_mem.2 h1)
    · exact .inr ⟨q, h1, List.contains_iff_mem.2 h2⟩
theorem keepH2 {w W w' : World} {b o b2 o2 : Nat} {x y : Value} (h : W.cell? ⟨b, o, none⟩ = some x ∧ W.cell? ⟨b2, o2, none⟩ = some y ∧ Below w.heap.size w W) (hb : b < w.heap.size) (hb2 : b2 < w.heap.size) (hB : Below W.heap.size W w') : w'.cell? ⟨b, o, none⟩ = some x ∧ w'.cell? ⟨b2, o2, none⟩ = some y ∧ Below w.heap.size w w' :=
  ⟨(hB.cell (p := ⟨b, o, none⟩) (Nat.lt_of_lt_of_le hb h.2.2.size)).trans h.1, (hB.cell (p := ⟨b2, o2, none⟩) (Nat.lt_of_lt_of_le hb2 h.2.2.size)).trans h.2.1, belowT h.2.2 hB⟩
set_option maxHeartbeats 4000000 in
theorem kidsL_of (v : Value) (E F : Ats) (s : Txt) (w : World) (hA : AtS w v E) (hF : F = E.take 66) :
    Calls Try.prog 6 #[v, .string ⟨s.toArray⟩] w fun e w' => e = .returned (.bool true) ∧ Below w.heap.size w w' := by
  have hFl : F.length ≤ 66 := by rw [hF, List.length_take]; omega
  have hFew := few_any v E w hA
  rw [← hF] at hFew
  have hb0 := Lib.hid (Below.refl w.heap.size w)
  have hLive := Lib.hid live_any
  have hK := fun (v : Value) W1 (h : AtS W1 v F) => kids_any v F s W1 h (by omega)
  have hB := fun (v : Value) W1 (h : AtS W1 v F) => below_any v F s W1 h (by omega)
  have hlu := Nat.le_trans (Nat.le_trans (kidsE_len F s) hFl) (show 66 ≤ 1000 by omega)
  have hlb := Nat.le_trans (Nat.le_trans (belowE_len F s) hFl) (show 66 ≤ 1000 by omega)
  have hkl := kids_len F s
  have hk1 := kids_facts F s
  have hd1 := below_facts F s
  obtain ⟨va, vn, vc, rfl⟩ : ∃ a n c, v = .slice a n c := by obtain ⟨a, c, h, -⟩ := hA; exact ⟨a, _, c, h⟩
  generalize kidsE F s = kk at hK hlu hkl hk1 hd1
  generalize belowE F s = d at hB hlb hkl hk1 hd1
  clear hA hF
  obtain ⟨N, hNe⟩ : ∃ N, kk.length = N := ⟨_, rfl⟩
  obtain ⟨M, hMe⟩ : ∃ N, d.length = N := ⟨_, rfl⟩
  have hNM : N ≤ M := by omega
  have hNb : N ≤ 1000 := by omega
  have hMb : M ≤ 1000 := by omega
  clear hkl
  replace hNe := Lib.hid hNe
  replace hMe := Lib.hid hMe
  replace hlu := Lib.hid hlu
  replace hlb := Lib.hid hlb
  replace hFl := Lib.hid hFl
  replace hFew := Lib.hid hFew
  replace hK := Lib.hid hK
  replace hB := Lib.hid hB
  replace hk1 := Lib.hid hk1
  replace hd1 := Lib.hid hd1
  go_enter Try.func6, Try.ntmps6
  go_wp2_with (first
    | (have m0 := hb2; go_at_call 16; refine (hB.out _ _ hA1.out).mono ?_; rintro e w3 ⟨sv2, rfl, hS2, hbn⟩; obtain ⟨a2, c2, rfl⟩ : ∃ a c', sv2 = .slice a M c' := (by obtain ⟨a, c, h, -⟩ := hS2; exact ⟨a, c, hMe.out ▸ h⟩); replace hS2 := Lib.hid hS2; replace hA1 := Lib.hid (hA1.out.below hbn); replace hS1 := Lib.hid (hS1.out.below hbn); have hb3 := Lib.hid (belowT hb2.out hbn); clear hbn)
    | (have m0 := hb1; go_at_call 19; refine (hK.out _ _ hA1.out).mono ?_; rintro e w2 ⟨sv1, rfl, hS1, hbn⟩; obtain ⟨a1, c1, rfl⟩ : ∃ a c', sv1 = .slice a N c' := (by obtain ⟨a, c, h, -⟩ := hS1; exact ⟨a, c, hNe.out ▸ h⟩); replace hS1 := Lib.hid hS1; replace hA1 := Lib.hid (hA1.out.below hbn); have hb2 := Lib.hid (belowT hb1.out hbn); clear hbn)
    | (have m0 := hb0; go_at_call 14; refine (hFew.out).mono ?_; rintro e w1 ⟨sv0, rfl, hA1, rfl⟩; obtain ⟨a0, c0, rfl⟩ : ∃ a c', sv0 = .slice a F.length c' := (by obtain ⟨a, c, h, -⟩ := hA1; exact ⟨a, c, h⟩); replace hA1 := Lib.hid hA1; have hb1 := hb0))
  go_loopw [7] (fun s7 wr => ∃ k : Nat, k ≤ N ∧ s7 = .int .i64 k ∧ Hid (Below w3.heap.size w3 wr)) (fun s7 _ => N - (intOf s7).toNat)
  case atStart => exact ⟨0, Nat.zero_le _, rfl, Lib.hid (Below.refl _ _)⟩
  case round =>
    obtain ⟨k, hk, rfl, hX⟩ := hrel
    by_cases hlt : k < N
    · have hk3 : k < kk.length := by have := hNe.out; omega
      obtain ⟨bb, o, rfl, hbb, d0⟩ := sts_cell (hS1.out.below hX.out) hk3
      obtain ⟨p1, p2⟩ := hk1.out _ (List.getElem_mem hk3)
      generalize hE : kk[k] = x at d0 p1 p2
      clear hE
      have hPx := fun (W1 : World) (h : Below w3.heap.size w3 W1) => coParent_any _ F x W1 (hA1.out.below h) (Nat.le_trans hFl.out (by decide))
      rw [p1] at hPx
      have hIx := fun (W1 : World) (h : Below w3.heap.size w3 W1) => in_any _ d x W1 (hS2.out.below h) hlb.out
      rw [p2] at hIx
      clear p1 p2
      replace hPx := Lib.hid hPx
      replace hIx := Lib.hid hIx
      have hki : (k : Int) < (N : Int) := by omega
      have hk0 : (0 : Int) ≤ (k : Int) := by omega
      go_wp2_with (first
        | (go_at_call 12; refine (hPx.out _ hX.out).mono ?_; rintro e w4 ⟨rfl, hbn⟩; obtain ⟨hcc, -⟩ := bat hbn bb hbb; replace hbn := Lib.hid (belowT hX.out hbn))
        | (go_at_call 23; refine (hIx.out _ hbn.out).mono ?_; rintro e w5 ⟨rfl, hbm⟩; replace hbm := Lib.hid (belowT hbn.out hbm)))
      go_roundw
      case rel => exact ⟨k + 1, by omega, by simp, hbm⟩
      case measure => simp [intOf]; omega
    · clear hk1
      have hki : ¬ (k : Int) < (N : Int) := by omega
      go_wp2
      go_loopw [10] (fun s10 wy => ∃ j : Nat, j ≤ M ∧ s10 = .int .i64 j ∧ Hid (Below w3.heap.size w3 wy)) (fun s10 _ => M - (intOf s10).toNat)
      case atStart => exact ⟨0, Nat.zero_le _, rfl, hX⟩
      case round =>
        obtain ⟨j, hj, rfl, hY⟩ := hrel
        by_cases hlt2 : j < M
        · have hk3 : j < d.length := by have := hMe.out; omega
          obtain ⟨b2, o2, rfl, hbb2, d0⟩ := sts_cell (hS2.out.below hY.out) hk3
          have hdx := hd1.out _ (List.getElem_mem hk3)
          generalize hE : d[j] = x at d0 hdx
          clear hE
          have hki2 : (j : Int) < (M : Int) := by omega
          have hj0 : (0 : Int) ≤ (j : Int) := by omega
          have hIx := fun (W1 : World) (h : Below w3.heap.size w3 W1) => in_any _ kk x W1 (hS1.out.below h) hlu.out
          cases hkx : kk.contains x with
          | true =>
            rw [hkx] at hIx
            replace hIx := Lib.hid hIx
            clear hdx hkx
            go_wp2_with (go_at_call 23; refine (hIx.out _ hY.out).mono ?_; rintro e w5 ⟨rfl, hbm⟩; replace hbm := Lib.hid (belowT hY.out hbm))
            go_roundw
            case rel => exact ⟨j + 1, by omega, by simp, hbm⟩
            case measure => simp [intOf]; omega
          | false =>
            rw [hkx] at hIx hdx
            replace hIx := Lib.hid hIx
            have hdy := Lib.hid (show ∃ q ∈ kk, (belowE F q).contains x = true from hdx.resolve_left (by simp))
            clear hdx hkx
            go_wp2_with (go_at_call 23; refine (hIx.out _ hY.out).mono ?_; rintro e w5 ⟨rfl, hbm⟩; obtain ⟨hcc, -⟩ := bat hbm b2 hbb2; replace d0 := (hcc _).trans d0; clear hcc; have hbz : b2 < w5.heap.size := Nat.lt_of_lt_of_le hbb2 hbm.size; replace hbm := Lib.hid (belowT hY.out hbm))
            replace d0 := Lib.hid d0
            go_loopw [11, 12] (fun s11 s12 wz => ∃ (i : Nat) (r : Bool), i ≤ N ∧ s12 = .int .i64 i ∧ s11 = .bool r ∧ Hid (r = (kk.take i).any fun q => (belowE F q).contains x) ∧ Hid (Below w5.heap.size w5 wz)) (fun _ s12 _ => N - (intOf s12).toNat)
            case atStart => exact ⟨0, false, Nat.zero_le _, rfl, rfl, Lib.hid rfl, Lib.hid (Below.refl _ _)⟩
            case round =>
              obtain ⟨i, r, hi, rfl, rfl, hr, hZ⟩ := hrel
              by_cases hlt3 : i < N
              · have hk4 : i < kk.length := by have := hNe.out; omega
                have hsn := any_snoc hk4 fun q => (belowE F q).contains x
                rw [← hr.out] at hsn
                have hki3 : (i : Int) < (N : Int) := by omega
                have hi0 : (0 : Int) ≤ (i : Int) := by omega
                cases r with
                | true =>
                  replace hsn := Lib.hid hsn
                  go_wp2_with fail
                  refine wp_region_float (by kernel_rfl) (by kernel_rfl) (fun Wx => Wx = wr.drew) rfl ?_
                  simp only [List.toList_toArray]
                  repeat (first
                    | (apply Flo.skip; · rfl
                       simp only [Act.put, List.setIfInBounds_toArray, List.set_cons_zero, List.set_cons_succ])
                    | (apply Flo.val; · rfl
                       · (rintro Wx rfl; go_simp; with_reducible rfl)
                       simp only [Act.put, List.setIfInBounds_toArray, List.set_cons_zero, List.set_cons_succ])
                    | fail)
                  rintro Wx rfl
                  go_wp2
                  go_roundw
                  case rel => exact ⟨i + 1, true, by omega, by simp, rfl, Lib.hid (by rw [hsn.out]; rfl), Lib.hid hZ.out.drew⟩
                  case measure => simp [intOf]; omega
                | false =>
                  obtain ⟨b1, o1, rfl, hbb1, d1⟩ := sts_cell (hS1.out.below hbm.out) hk4
                  replace d1 := (hZ.out.cell (p := ⟨b1, o1 + i, none⟩) hbb1).trans d1
                  generalize hE : kk[i] = q at d1 hsn
                  clear hE
                  have hBq := fun (W1 : World) (h : Below w5.heap.size w5 W1) => below_any _ F q W1 ((hA1.out.below hbm.out).below h) (Nat.le_trans hFl.out (by decide))
                  have hIq := fun (v : Value) W1 (hS : StS W1 v (belowE F q)) => in_any v (belowE F q) x W1 hS (Nat.le_trans (Nat.le_trans (belowE_len F q) hFl.out) (by decide))
                  generalize (belowE F q).contains x = t at hIq hsn
                  have hsn2 := Lib.hid (show (kk.take (i + 1)).any (fun q => (belowE F q).contains x) = t from hsn.trans (by simp))
                  clear hsn
                  replace hBq := Lib.hid hBq
                  replace hIq := Lib.hid hIq
                  have hd2 := (hZ.out.cell (p := ⟨b2, o2 + j, none⟩) hbz).trans d0.out
                  have hst : wr.cell? ⟨b1, o1 + i, none⟩ = some (.string ⟨q.toArray⟩) ∧ wr.cell? ⟨b2, o2 + j, none⟩ = some (.string ⟨x.toArray⟩) ∧ Below w5.heap.size w5 wr := ⟨d1, hd2, hZ.out⟩
                  have hstd : wr.drew.cell? ⟨b1, o1 + i, none⟩ = some (.string ⟨q.toArray⟩) ∧ wr.drew.cell? ⟨b2, o2 + j, none⟩ = some (.string ⟨x.toArray⟩) ∧ Below w5.heap.size w5 wr.drew := ⟨d1, hd2, hZ.out.drew⟩
                  go_wp2_with fail
                  go_region_held3 (fun W => W.cell? ⟨b1, o1 + i, none⟩ = some (.string ⟨q.toArray⟩) ∧ W.cell? ⟨b2, o2 + j, none⟩ = some (.string ⟨x.toArray⟩) ∧ Below w5.heap.size w5 W)
                    (first | with_reducible assumption | with_reducible exact hstd | with_reducible exact hst | with_reducible exact keepH2 (by assumption) hbb1 hbz (by assumption))
                    (first
                      | (go_at_call 16; refine (hBq.out _ (And.right (And.right (by assumption)))).mono ?_; rintro e w6 ⟨sv, rfl, hS, hb6⟩)
                      | (go_at_call 23; refine (hIq.out _ _ hS).mono ?_; rintro e w7 ⟨rfl, hb7⟩))
                  all_goals go_wp2_with fail
                  all_goals exact ⟨⟨i + 1, t, by omega, by simp, by simp, Lib.hid hsn2.out.symm, Lib.hid (belowT (belowT hstd.2.2 hb6) hb7)⟩, by simp [intOf]; omega⟩
              · have hrt : r = true := by
                  rw [hr.out, List.take_of_length_le (by have := hNe.out; omega)]
                  obtain ⟨q, h1, h2⟩ := hdy.out
                  exact List.any_eq_true.2 ⟨q, h1, h2⟩
                subst hrt
                have hki3 : ¬ (i : Int) < (N : Int) := by omega
                go_wp2
                go_roundw
                case rel => exact ⟨j + 1, by omega, by simp, Lib.hid (belowT hbm.out hZ.out)⟩
                case measure => simp [intOf]; omega
        · have hki2 : ¬ (j : Int) < (M : Int) := by omega
          have hNMi : (N : Int) ≤ (M : Int) := by omega
          go_wp2_with (go_at_call 13; refine (hLive.out _).mono ?_; rintro e w9 ⟨rfl, hbn⟩; have hb9 := Lib.hid (belowT (belowT hb3.out hY.out) hbn); clear hbn)
          go_ret
          exact ⟨by simp [hNM], hb9.out⟩
theorem collectKids_walk (v : Value) (E : Ats) (s : Txt) (w : World) (hA : AtS w v E) :
    Calls Try.prog 6 #[v, .string ⟨s.toArray⟩] w fun e w' => e = .returned (.bool true) ∧ Below w.heap.size w w' := kidsL_of v E _ s w hA rfl
end Go.Proofs.Ytgodmppmiamhaaa
