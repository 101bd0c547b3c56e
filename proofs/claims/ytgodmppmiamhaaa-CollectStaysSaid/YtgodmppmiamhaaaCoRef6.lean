/-
  The reference's Remove. Condition: at most 1000 edges.
-/
import Derived.Test.YtgodmppmiamhaaaCoRef5
namespace Go.Proofs.Ytgodmppmiamhaaa
set_option linter.unusedVariables false
set_option linter.unusedSimpArgs false
open Go.RowKit Go.MapKept Go.Shelf
theorem rem_snoc {E : Ats} {c : Txt} {k : Nat} (h : k < E.length) : remE (E.take (k + 1)) c = remE (E.take k) c ++ (if (E[k]'h).1 = c then [] else [E[k]'h]) := by
  unfold remE
  rw [List.take_add_one, List.getElem?_eq_getElem h, List.filter_append]
  congr 1
  by_cases hc : (E[k]'h).1 = c <;> simp [hc]
theorem rem_len (E : Ats) (c : Txt) (k : Nat) : (remE (E.take k) c).length ≤ k := Nat.le_trans (List.length_filter_le _ _) (by simp; omega)
theorem rem_par {E : Ats} {c : Txt} (h : parE E c ≠ none) : (remE E c).length ≠ E.length := by
  intro hl
  have he := List.filter_eq_self.1 (List.length_filter_eq_length_iff.1 hl |> fun h' => List.filter_eq_self.2 h')
  refine h (par_small (fun e hm hc => ?_))
  have := he e hm
  simp [hc] at this
theorem atC_app (a b : Ats) : atCells (a ++ b) = atCells a ++ atCells b := by simp [atCells]
set_option maxRecDepth 100000 in
set_option maxHeartbeats 2000000 in
theorem refRemove_any (v : Value) (E : Ats) (c : Txt) (w : World) (hA : AtS w v E) (hl : E.length ≤ 1000) :
    Calls Try.prog 26 #[v, .string ⟨c.toArray⟩] w fun e w' => PairA w' e (delE E c) ∧ Below w.heap.size w w' := by
  obtain ⟨i0, hi, hz0, hz1, hz2⟩ := info_parts infoE
  have hR := Lib.hid (refRight_any _ E w hA hl)
  obtain ⟨ptr, cap, rfl, hc1, hc2, hat⟩ := hA
  cases hr : rightE E with
  | false =>
    have hp : delE E c = ([], 3) := by simp [delE, hr]
    rw [hp]
    rw [hr] at hR
    clear hat
    go_enter Try.func26, Try.ntmps26
    go_wp2_with (go_at_call 28; refine hR.out.mono ?_; rintro e w1 ⟨rfl, hb1⟩; replace hb1 := Lib.hid hb1)
    go_ret2
    exact ⟨⟨_, rfl, sN _⟩, hb1.out⟩
  | true =>
    rw [hr] at hR
    have hpn : Hid (parE E c = none → delE E c = ([], 10) ∧ (remE E c).length = E.length) := Lib.hid fun h => ⟨by simp [delE, hr, h], by rw [rem_none h]⟩
    have hps : Hid (parE E c ≠ none → delE E c = (remE E c, 0) ∧ (remE E c).length ≠ E.length) := Lib.hid fun h => ⟨by simp [delE, hr, h], rem_par h⟩
    obtain ⟨N, hN⟩ : ∃ N, E.length = N := ⟨_, rfl⟩
    rw [hN] at hR hl hpn hps ⊢
    replace hN := Lib.hid hN
    replace hat := Lib.hid hat
    clear hc1 hc2
    go_enter Try.func26, Try.ntmps26
    go_wp2_with (go_at_call 28; refine hR.out.mono ?_; rintro e w1 ⟨rfl, hb1⟩; replace hb1 := Lib.hid hb1)
    go_loopw [6, 7] (fun s5 s6 wr => ∃ k : Nat, k ≤ N ∧ s6 = .int .i64 k ∧ Hid (wr.ownsRow w.heap.size 58 2 s5 (remE (E.take k) c).length (atCells (remE (E.take k) c))) ∧ Hid (Below w.heap.size w wr)) (fun _ s6 _ => N - (intOf s6).toNat)
    case atStart => exact ⟨0, Nat.zero_le _, rfl, Lib.hid (World.ownsRow_nil _ _ _ _), hb1⟩
    case round =>
      obtain ⟨k, hk, rfl, hO, hB⟩ := hrel
      obtain ⟨na, nc, rfl⟩ := owns_shp hO.out
      by_cases hlt : k < N
      · have hk3 : k < E.length := by have := hN.out; omega
        obtain ⟨b, o, rfl, hb, hcc⟩ := hat.out (by omega)
        obtain ⟨d0, d1⟩ := hcc k hk3
        have kc := fun (j : Nat) => hB.out.cell (p := ⟨b, j, none⟩) hb
        replace d0 := (kc _).trans d0
        replace d1 := (kc _).trans d1
        have hsn := rem_snoc (c := c) hk3
        have hfl := rem_len E c k
        clear hcc kc
        generalize hE : E[k] = x at d0 d1 hsn
        obtain ⟨ch, pa⟩ := x
        simp only at d0 d1 hsn
        replace hE := Lib.hid hE
        have hki : (k : Int) < (N : Int) := by omega
        have hk0 : (0 : Int) ≤ (k : Int) := by omega
        have hsz := hB.out.size
        have hbw : b < wr.heap.size := Nat.lt_of_lt_of_le hb hsz
        replace hfl := Lib.hid hfl
        replace hsz := Lib.hid hsz
        by_cases hx : ch = c
        · rw [if_pos hx, List.append_nil] at hsn
          replace hsn := Lib.hid hsn
          subst hx
          go_wp2
          go_roundw
          case rel =>
            refine ⟨k + 1, by omega, by simp, ?_, hB⟩
            rw [hsn.out]
            exact hO
          case measure => simp [intOf]; omega
        · rw [if_neg hx] at hsn
          replace hsn := Lib.hid hsn
          have hxb : (ch == c) = false := by simpa using hx
          have hxb2 : (ch != c) = true := by simpa using hx
          replace hx := Lib.hid hx
          have hO1 := hO.out.alloc (.cells #[.string ⟨ch.toArray⟩, .string ⟨pa.toArray⟩] 58)
          have hnew := vC_cells (heap_alloc wr (.cells #[.string ⟨ch.toArray⟩, .string ⟨pa.toArray⟩] 58)).1
          have hone := vC_one ch pa
          replace hO1 := Lib.hid hO1
          go_wp2_with (at_builtin; refine wpList_append_own _ rfl _ _ 23 rfl w.heap.size 58 i0 _ 2 32 underE hi hz0 hz1 hz2 rfl (by decide) _ _ _ rfl hO1.out ⟨wr.heap.size, 0, none⟩ 1 1 (vC ch pa) rfl rfl (fun j u h => by rw [Addr.add_lit]; exact hnew j u h) hone (by have := hfl.out; unfold maxLen; omega) (by have := hfl.out; omega) (by have := hsz.out; simp only [World.size_alloc]; omega) ?_
                       intro v' w2 hO2 hg2 _
                       have hb2 := (belowA hB.out (.cells #[.string ⟨ch.toArray⟩, .string ⟨pa.toArray⟩] 58)).grown hg2 (by have := hsz.out; simp only [World.size_alloc]; omega) (fun k hk => (hO1.out.lt k hk).1)
                       replace hO2 := Lib.hid hO2
                       replace hb2 := Lib.hid hb2)
          go_roundw
          case rel =>
            refine ⟨k + 1, by omega, by simp, ?_, hb2⟩
            rw [hsn.out, List.length_append, atC_app]
            exact hO2
          case measure => simp [intOf]; omega
      · obtain rfl : k = N := by omega
        have e4 : E.take k = E := List.take_of_length_le (by have := hN.out; omega)
        rw [e4] at hO
        have hki : ¬ (k : Int) < (k : Int) := by omega
        have hX := Lib.hid (owns_edge hO.out)
        by_cases hp : parE E c = none
        · obtain ⟨h1, h2⟩ := hpn.out hp
          have h2i : ((remE E c).length : Int) = (k : Int) := by omega
          replace h1 := Lib.hid h1
          replace h2 := Lib.hid h2
          replace hp := Lib.hid hp
          go_wp2
          go_ret2
          rw [h1.out]
          exact ⟨⟨_, rfl, sN _⟩, hB.out⟩
        · obtain ⟨h1, h2⟩ := hps.out hp
          have h2i : ¬ ((remE E c).length : Int) = (k : Int) := by omega
          replace h1 := Lib.hid h1
          replace h2 := Lib.hid h2
          replace hp := Lib.hid hp
          go_wp2
          go_ret2
          rw [h1.out]
          exact ⟨⟨_, rfl, hX.out⟩, hB.out⟩
end Go.Proofs.Ytgodmppmiamhaaa
