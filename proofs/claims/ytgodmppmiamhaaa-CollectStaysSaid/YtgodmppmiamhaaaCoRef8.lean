/-
  The reference's Add, by the program. Condition: at most 1000 edges.
-/
import Derived.Test.YtgodmppmiamhaaaCoRef7
namespace Go.Proofs.Ytgodmppmiamhaaa
set_option linter.unusedVariables false
set_option linter.unusedSimpArgs false
open Go.RowKit Go.MapKept Go.Shelf
set_option maxHeartbeats 2000000 in
theorem refAdd_form (v : Value) (E : Ats) (c p : Txt) (w : World) (hA : AtS w v E) (hl : E.length ≤ 1000) (h : c = [] ∨ p = [] ∨ rightE E = false) :
    Calls Try.prog 24 #[v, .string ⟨c.toArray⟩, .string ⟨p.toArray⟩] w fun e w' => PairA w' e (addE E c p) ∧ Below w.heap.size w w' := by
  have ha : Hid (addE E c p = ([], 3)) := Lib.hid (by unfold addE; rw [if_pos h])
  have hR := Lib.hid (refRight_any _ E w hA hl)
  obtain ⟨vp, vc, rfl⟩ : ∃ a c, v = .slice a E.length c := by obtain ⟨a, c, h, -⟩ := hA; exact ⟨a, c, h⟩
  clear hA
  cases hr : rightE E with
  | false =>
    rw [hr] at hR
    clear h
    go_enter Try.func24, Try.ntmps24
    go_wp2_with (go_at_call 28; refine hR.out.mono ?_; rintro e w1 ⟨rfl, hb1⟩; replace hb1 := Lib.hid hb1)
    go_ret2
    rw [ha.out]
    exact ⟨⟨_, rfl, sN _⟩, hb1.out⟩
  | true =>
    rw [hr] at hR
    by_cases hc : c = []
    · subst hc
      clear h
      go_enter Try.func24, Try.ntmps24
      go_wp2_with (go_at_call 28; refine hR.out.mono ?_; rintro e w1 ⟨rfl, hb1⟩; replace hb1 := Lib.hid hb1)
      go_ret2
      rw [ha.out]
      exact ⟨⟨_, rfl, sN _⟩, hb1.out⟩
    · have hp : p = [] := by simpa [hc, hr] using h
      subst hp
      have hcb : (c == []) = false := by simpa using hc
      replace hc := Lib.hid hc
      clear h
      go_enter Try.func24, Try.ntmps24
      go_wp2_with (go_at_call 28; refine hR.out.mono ?_; rintro e w1 ⟨rfl, hb1⟩; replace hb1 := Lib.hid hb1)
      go_ret2
      rw [ha.out]
      exact ⟨⟨_, rfl, sN _⟩, hb1.out⟩
set_option maxHeartbeats 2000000 in
theorem refAdd_cycle (v : Value) (E : Ats) (c p : Txt) (w : World) (hA : AtS w v E) (hl : E.length ≤ 1000) (hc : c ≠ []) (hp : p ≠ []) (hr : rightE E = true) (h : c = p ∨ isUpE E c p = true) :
    Calls Try.prog 24 #[v, .string ⟨c.toArray⟩, .string ⟨p.toArray⟩] w fun e w' => PairA w' e (addE E c p) ∧ Below w.heap.size w w' := by
  have ha : Hid (addE E c p = ([], 9)) := Lib.hid (by unfold addE; rw [if_neg (by simp [hc, hp, hr]), if_pos h])
  have hR := Lib.hid (refRight_any _ E w hA hl)
  have hUp := Lib.hid (fun W1 c (hb : Below w.heap.size w W1) => refAbove_any v E c W1 (hA.below hb) hl)
  have hHas : ∀ (v : Value) W1, StS W1 v (aboveE E p) → Calls Try.prog 43 #[v, .string ⟨c.toArray⟩] W1 fun e w' => e = .returned (.bool (isUpE E c p)) ∧ Below W1.heap.size W1 w' := fun v W1 hS => has_any v (aboveE E p) c W1 hS (Nat.le_trans (upF_len _ _) hl)
  obtain ⟨vp, vc, rfl⟩ : ∃ a c, v = .slice a E.length c := by obtain ⟨a, c, h, -⟩ := hA; exact ⟨a, c, h⟩
  rw [hr] at hR
  clear hA
  have hcb : (c == []) = false := by simpa using hc
  have hpb : (p == []) = false := by simpa using hp
  by_cases hcp : c = p
  · subst hcp
    replace hHas := Lib.hid hHas
    replace hc := Lib.hid hc
    replace hp := Lib.hid hp
    clear h
    go_enter Try.func24, Try.ntmps24
    go_wp2_with (go_at_call 28; refine hR.out.mono ?_; rintro e w1 ⟨rfl, hb1⟩; replace hb1 := Lib.hid hb1)
    go_ret2
    rw [ha.out]
    exact ⟨⟨_, rfl, sN _⟩, hb1.out⟩
  · have hu : isUpE E c p = true := by simpa [hcp] using h
    rw [hu] at hHas
    have hcpb : (c == p) = false := by simpa using hcp
    replace hHas := Lib.hid hHas
    replace hc := Lib.hid hc
    replace hp := Lib.hid hp
    replace hcp := Lib.hid hcp
    clear h
    go_enter Try.func24, Try.ntmps24
    go_wp2_with (first
      | (go_at_call 28; refine hR.out.mono ?_; rintro e w1 ⟨rfl, hb1⟩; replace hb1 := Lib.hid hb1)
      | (go_at_call 42; refine (hUp.out _ p hb1.out).mono ?_; rintro e w2 ⟨sv, rfl, hS, hb2⟩; obtain ⟨na, nn, nc, rfl⟩ : ∃ a n c', sv = .slice a n c' := (by obtain ⟨a, c, h, -⟩ := hS; exact ⟨a, _, c, h⟩); replace hS := Lib.hid hS; replace hb2 := Lib.hid (belowT hb1.out hb2))
      | (go_at_call 43; refine (hHas.out _ _ hS.out).mono ?_; rintro e w3 ⟨rfl, hb3⟩; replace hb3 := Lib.hid (belowT hb2.out hb3)))
    go_ret2
    rw [ha.out]
    exact ⟨⟨_, rfl, sN _⟩, hb3.out⟩
set_option maxRecDepth 100000 in
set_option maxHeartbeats 4000000 in
theorem refAdd_rest (v : Value) (E : Ats) (c p : Txt) (w : World) (hA : AtS w v E) (hl : E.length ≤ 1000) (hc : c ≠ []) (hp : p ≠ []) (hr : rightE E = true) (hcp : c ≠ p) (hu : isUpE E c p = false) :
    Calls Try.prog 24 #[v, .string ⟨c.toArray⟩, .string ⟨p.toArray⟩] w fun e w' => PairA w' e (addE E c p) ∧ Below w.heap.size w w' := by
  obtain ⟨i0, hi, hz0, hz1, hz2⟩ := info_parts infoE
  have hs := (right_parts hr).2.2.1
  have hR := Lib.hid (refRight_any _ E w hA hl)
  have hUp := Lib.hid (fun W1 c (hb : Below w.heap.size w W1) => refAbove_any v E c W1 (hA.below hb) hl)
  have hHas : ∀ (v : Value) W1, StS W1 v (aboveE E p) → Calls Try.prog 43 #[v, .string ⟨c.toArray⟩] W1 fun e w' => e = .returned (.bool (isUpE E c p)) ∧ Below W1.heap.size W1 w' := fun v W1 hS => has_any v (aboveE E p) c W1 hS (Nat.le_trans (upF_len _ _) hl)
  have hPa := fun W1 (hb : Below w.heap.size w W1) => refParent_any v E c W1 (hA.below hb) hl
  rw [hu] at hHas
  rw [hr] at hR
  replace hHas := Lib.hid hHas
  have hcb : (c == []) = false := by simpa using hc
  have hpb : (p == []) = false := by simpa using hp
  have hcpb : (c == p) = false := by simpa using hcp
  have hone := fun a b => vC_one a b
  by_cases hfull : parE E c = none ∧ 64 ≤ E.length
  · have ha : Hid (addE E c p = ([], 4)) := Lib.hid (by unfold addE; rw [if_neg (by simp [hc, hp, hr]), if_neg (by simp [hcp, hu]), if_pos hfull])
    obtain ⟨vp, vc, rfl⟩ : ∃ a c, v = .slice a E.length c := by obtain ⟨a, c, h, -⟩ := hA; exact ⟨a, c, h⟩
    obtain ⟨hf1, hf2⟩ := hfull
    rw [hf1] at hPa
    have h64 : (64 : Int) ≤ (E.length : Int) := by omega
    replace hPa := Lib.hid hPa
    replace hf1 := Lib.hid hf1
    replace hf2 := Lib.hid hf2
    clear hA
    replace hc := Lib.hid hc
    replace hp := Lib.hid hp
    replace hcp := Lib.hid hcp
    go_enter Try.func24, Try.ntmps24
    go_wp2_with (first
      | (go_at_call 28; refine hR.out.mono ?_; rintro e w1 ⟨rfl, hb1⟩; replace hb1 := Lib.hid hb1)
      | (go_at_call 42; refine (hUp.out _ p hb1.out).mono ?_; rintro e w2 ⟨sv, rfl, hS, hb2⟩; obtain ⟨na, nn, nc, rfl⟩ : ∃ a n c', sv = .slice a n c' := (by obtain ⟨a, c, h, -⟩ := hS; exact ⟨a, _, c, h⟩); replace hS := Lib.hid hS; replace hb2 := Lib.hid (belowT hb1.out hb2))
      | (go_at_call 43; refine (hHas.out _ _ hS.out).mono ?_; rintro e w3 ⟨rfl, hb3⟩; replace hb3 := Lib.hid (belowT hb2.out hb3))
      | (go_at_call 40; refine (hPa.out _ hb3.out).mono ?_; rintro e w4 ⟨rfl, hb4⟩; replace hb4 := Lib.hid (belowT hb3.out hb4)))
    go_ret2
    rw [ha.out]
    exact ⟨⟨_, rfl, sN _⟩, hb4.out⟩
  · have ha : Hid (addE E c p = (insE c p E, 0)) := Lib.hid (by unfold addE; rw [if_neg (by simp [hc, hp, hr]), if_neg (by simp [hcp, hu]), if_neg hfull])
    have hlen : E.length ≤ 64 := (right_parts hr).1
    obtain ⟨op, hop⟩ : ∃ op, parE E c = op := ⟨_, rfl⟩
    rw [hop] at hPa hfull
    have hfl64 : op = none → ¬ (64 : Int) ≤ (E.length : Int) := fun h => by
      have : ¬ 64 ≤ E.length := fun h' => hfull ⟨h, h'⟩
      omega
    replace hPa := Lib.hid hPa
    replace hfl64 := Lib.hid hfl64
    replace hop := Lib.hid hop
    clear hfull
    obtain ⟨ptr, cap, rfl, hc1, hc2, hat⟩ := hA
    obtain ⟨N, hN⟩ : ∃ N, E.length = N := ⟨_, rfl⟩
    rw [hN] at hR hl hUp hPa hfl64 hlen ⊢
    replace hN := Lib.hid hN
    replace hat := Lib.hid hat
    replace hs := Lib.hid hs
    replace hc := Lib.hid hc
    replace hp := Lib.hid hp
    replace hcp := Lib.hid hcp
    clear hc1 hc2
    go_enter Try.func24, Try.ntmps24
    go_upto_region 6 with (first
      | (go_at_call 28; refine hR.out.mono ?_; rintro e w1 ⟨rfl, hb1⟩; replace hb1 := Lib.hid hb1)
      | (go_at_call 42; refine (hUp.out _ p hb1.out).mono ?_; rintro e w2 ⟨sv, rfl, hS, hb2⟩; obtain ⟨na, nn, nc, rfl⟩ : ∃ a n c', sv = .slice a n c' := (by obtain ⟨a, c, h, -⟩ := hS; exact ⟨a, _, c, h⟩); replace hS := Lib.hid hS; replace hb2 := Lib.hid (belowT hb1.out hb2))
      | (go_at_call 43; refine (hHas.out _ _ hS.out).mono ?_; rintro e w3 ⟨rfl, hb3⟩; replace hb3 := Lib.hid (belowT hb2.out hb3))
      | (go_at_call 40; refine (hPa.out _ hb3.out).mono ?_; rintro e w4 ⟨rfl, hb4⟩; replace hb4 := Lib.hid (belowT hb3.out hb4)))
    go_cut [46] (fun v46 W => v46 = .bool false ∧ W = w4)
    case first =>
      cases op with
      | none =>
        have h64 := hfl64.out rfl
        go_wp2_with fail
        go_meet
        exact ⟨by first | rfl | (rw [decide_eq_false (show ¬ (64 : Int) ≤ (N : Int) by omega)]), rfl⟩
      | some q =>
        go_wp2_with fail
        go_meet
        exact ⟨rfl, rfl⟩
    case rest =>
      obtain ⟨rfl, rfl⟩ := hcut
      go_wp2_with fail
      go_loopw [10, 11, 12] (fun s5 s11 s6 wr => ∃ k : Nat, k ≤ N ∧ s6 = .int .i64 k ∧ s11 = .bool (plE E c k) ∧ Hid (wr.ownsRow w.heap.size 58 2 s5 (outE E c p k).length (atCells (outE E c p k))) ∧ Hid (Below w.heap.size w wr)) (fun _ _ s6 _ => N - (intOf s6).toNat)
      case atStart => exact ⟨0, Nat.zero_le _, rfl, rfl, Lib.hid (World.ownsRow_nil _ _ _ _), hb4⟩
      case round =>
        obtain ⟨k, hk, rfl, rfl, hO, hB⟩ := hrel
        obtain ⟨na', nc', rfl⟩ := owns_shp hO.out
        have hsz := hB.out.size
        replace hsz := Lib.hid hsz
        have hfl := Lib.hid (out_len (c := c) (p := p) hs.out (by rw [hN.out]; exact hk))
        by_cases hlt : k < N
        · have hk3 : k < E.length := by have := hN.out; omega
          obtain ⟨b, o, rfl, hb, hcc⟩ := hat.out (by omega)
          obtain ⟨d0, d1⟩ := hcc k hk3
          have kc := fun (j : Nat) => hB.out.cell (p := ⟨b, j, none⟩) hb
          have hcell := Lib.hid (hcc k hk3)
          replace d0 := (kc _).trans d0
          replace d1 := (kc _).trans d1
          have hgo := out_go (c := c) (p := p) hs.out hk3
          have hbf := out_before (c := c) (p := p) hk3
          have hhr := out_here (c := c) (p := p) hk3
          clear hcc kc
          generalize hE : E[k] = x at d0 d1 hgo hbf hhr hcell
          obtain ⟨ch, pa⟩ := x
          simp only at d0 d1 hgo hbf hhr hcell
          replace hE := Lib.hid hE
          have hki : (k : Int) < (N : Int) := by omega
          have hk0 : (0 : Int) ≤ (k : Int) := by omega
          have hbw : b < wr.heap.size := Nat.lt_of_lt_of_le hb hsz.out
          have hlq := leq_run ch c
          cases hpl : plE E c k with
          | true =>
            obtain ⟨n1, n2, n3⟩ := hgo hpl
            have n2b : (ch == c) = false := by simpa using n2
            have n2c : (ch != c) = true := by simpa using n2
            clear hgo hbf hhr hlq
            replace n1 := Lib.hid n1
            replace n2 := Lib.hid n2
            replace n3 := Lib.hid n3
            replace hpl := Lib.hid hpl
            go_wp2_with (at_builtin; refine wpList_append_own _ rfl _ _ 23 rfl w.heap.size 58 i0 _ 2 32 underE hi hz0 hz1 hz2 rfl (by decide) _ _ _ rfl (hO.out.alloc _) ⟨wr.heap.size, 0, none⟩ 1 1 (vC ch pa) rfl rfl (fun j u h => by rw [Addr.add_lit]; exact vC_cells (heap_alloc _ _).1 j u h) (vC_one _ _) (by have := hfl.out; unfold maxLen; omega) (by have := hfl.out; omega) (by have := hsz.out; simp only [World.size_alloc]; omega) ?_
                         intro v' w5 hO5 hg5 _
                         have hb5 := (belowA hB.out (.cells #[.string ⟨ch.toArray⟩, .string ⟨pa.toArray⟩] 58)).grown hg5 (by have := hsz.out; simp only [World.size_alloc]; omega) (fun k hk => ((hO.out.alloc (.cells #[.string ⟨ch.toArray⟩, .string ⟨pa.toArray⟩] 58)).lt k hk).1)
                         obtain ⟨m1, m2, rfl⟩ := owns_shp hO5
                         have f0 := (hb5.cell (p := ⟨b, o + k * 2, none⟩) hb).trans hcell.out.1
                         have f1 := (hb5.cell (p := ⟨b, o + k * 2 + 1, none⟩) hb).trans hcell.out.2
                         have hsz5 := hb5.size
                         have hbw5 : b < w5.heap.size := Nat.lt_of_lt_of_le hb hsz5
                         replace hsz5 := Lib.hid hsz5
                         replace hO5 := Lib.hid hO5
                         replace hb5 := Lib.hid hb5)
            go_roundw
            case rel =>
              refine ⟨k + 1, by omega, by simp, by rw [n1.out], ?_, hb5⟩
              rw [n3.out, List.length_append, atC_app]
              exact hO5
            case measure => simp [intOf]; omega
          | false =>
            by_cases hlt2 : ch < c
            · obtain ⟨n1, n2, n3⟩ := hbf hpl hlt2
              have n2b : (ch == c) = false := by simpa using n2
              have n2c : (ch != c) = true := by simpa using n2
              rw [decide_eq_true hlt2] at hlq
              clear hgo hbf hhr
              replace n1 := Lib.hid n1
              replace n2 := Lib.hid n2
              replace n3 := Lib.hid n3
              replace hpl := Lib.hid hpl
              replace hlt2 := Lib.hid hlt2
              go_wp2_with (at_builtin; refine wpList_append_own _ rfl _ _ 23 rfl w.heap.size 58 i0 _ 2 32 underE hi hz0 hz1 hz2 rfl (by decide) _ _ _ rfl (hO.out.alloc _) ⟨wr.heap.size, 0, none⟩ 1 1 (vC ch pa) rfl rfl (fun j u h => by rw [Addr.add_lit]; exact vC_cells (heap_alloc _ _).1 j u h) (vC_one _ _) (by have := hfl.out; unfold maxLen; omega) (by have := hfl.out; omega) (by have := hsz.out; simp only [World.size_alloc]; omega) ?_
                           intro v' w5 hO5 hg5 _
                           have hb5 := (belowA hB.out (.cells #[.string ⟨ch.toArray⟩, .string ⟨pa.toArray⟩] 58)).grown hg5 (by have := hsz.out; simp only [World.size_alloc]; omega) (fun k hk => ((hO.out.alloc (.cells #[.string ⟨ch.toArray⟩, .string ⟨pa.toArray⟩] 58)).lt k hk).1)
                           obtain ⟨m1, m2, rfl⟩ := owns_shp hO5
                           have f0 := (hb5.cell (p := ⟨b, o + k * 2, none⟩) hb).trans hcell.out.1
                           have f1 := (hb5.cell (p := ⟨b, o + k * 2 + 1, none⟩) hb).trans hcell.out.2
                           have hsz5 := hb5.size
                           have hbw5 : b < w5.heap.size := Nat.lt_of_lt_of_le hb hsz5
                           replace hsz5 := Lib.hid hsz5
                           replace hO5 := Lib.hid hO5
                           replace hb5 := Lib.hid hb5)
              go_roundw
              case rel =>
                refine ⟨k + 1, by omega, by simp, by rw [n1.out], ?_, hb5⟩
                rw [n3.out, List.length_append, atC_app]
                exact hO5
              case measure => simp [intOf]; omega
            · obtain ⟨n1, n3⟩ := hhr hpl hlt2
              rw [decide_eq_false hlt2] at hlq
              by_cases hce : ch = c
              · rw [if_pos hce] at n3
                clear hgo hbf hhr
                replace n1 := Lib.hid n1
                replace n3 := Lib.hid n3
                replace hpl := Lib.hid hpl
                replace hlt2 := Lib.hid hlt2
                have hceb : (ch == c) = true := by simpa using hce
                have hcec : (ch != c) = false := by simpa using hce
                replace hce := Lib.hid hce
                go_wp2_with (at_builtin; refine wpList_append_own _ rfl _ _ 23 rfl w.heap.size 58 i0 _ 2 32 underE hi hz0 hz1 hz2 rfl (by decide) _ _ _ rfl (hO.out.alloc _) ⟨wr.heap.size, 0, none⟩ 1 1 (vC c p) rfl rfl (fun j u h => by rw [Addr.add_lit]; exact vC_cells (heap_alloc _ _).1 j u h) (vC_one _ _) (by have := hfl.out; unfold maxLen; omega) (by have := hfl.out; omega) (by have := hsz.out; simp only [World.size_alloc]; omega) ?_
                             intro v' w5 hO5 hg5 _
                             have hb5 := (belowA hB.out (.cells #[.string ⟨c.toArray⟩, .string ⟨p.toArray⟩] 58)).grown hg5 (by have := hsz.out; simp only [World.size_alloc]; omega) (fun k hk => ((hO.out.alloc (.cells #[.string ⟨c.toArray⟩, .string ⟨p.toArray⟩] 58)).lt k hk).1)
                             obtain ⟨m1, m2, rfl⟩ := owns_shp hO5
                             have f0 := (hb5.cell (p := ⟨b, o + k * 2, none⟩) hb).trans hcell.out.1
                             have f1 := (hb5.cell (p := ⟨b, o + k * 2 + 1, none⟩) hb).trans hcell.out.2
                             have hsz5 := hb5.size
                             have hbw5 : b < w5.heap.size := Nat.lt_of_lt_of_le hb hsz5
                             replace hsz5 := Lib.hid hsz5
                             replace hO5 := Lib.hid hO5
                             replace hb5 := Lib.hid hb5)
                go_roundw
                case rel =>
                  refine ⟨k + 1, by omega, by simp, by rw [n1.out], ?_, hb5⟩
                  rw [n3.out, List.length_append, atC_app]
                  exact hO5
                case measure => simp [intOf]; omega
              · rw [if_neg hce] at n3
                clear hgo hbf hhr
                replace n1 := Lib.hid n1
                replace n3 := Lib.hid n3
                replace hpl := Lib.hid hpl
                replace hlt2 := Lib.hid hlt2
                have n2b : (ch == c) = false := by simpa using hce
                have n2c : (ch != c) = true := by simpa using hce
                replace hce := Lib.hid hce
                go_wp2_with (first
                  | (at_builtin; refine wpList_append_own _ rfl _ _ 23 rfl w.heap.size 58 i0 _ 2 32 underE hi hz0 hz1 hz2 rfl (by decide) _ _ _ rfl (hO5.out.alloc _) ⟨w5.heap.size, 0, none⟩ 1 1 (vC ch pa) rfl rfl (fun j u h => by rw [Addr.add_lit]; exact vC_cells (heap_alloc _ _).1 j u h) (vC_one _ _) (by have := hfl.out; unfold maxLen; omega) (by have := hfl.out; omega) (by have := hsz5.out; simp only [World.size_alloc]; omega) ?_
                     intro v' w6 hO6 hg6 _
                     have hb6 := (belowA hb5.out (.cells #[.string ⟨ch.toArray⟩, .string ⟨pa.toArray⟩] 58)).grown hg6 (by have := hsz5.out; simp only [World.size_alloc]; omega) (fun k hk => ((hO5.out.alloc (.cells #[.string ⟨ch.toArray⟩, .string ⟨pa.toArray⟩] 58)).lt k hk).1)
                     replace hO6 := Lib.hid hO6
                     replace hb6 := Lib.hid hb6)
                  | (at_builtin; refine wpList_append_own _ rfl _ _ 23 rfl w.heap.size 58 i0 _ 2 32 underE hi hz0 hz1 hz2 rfl (by decide) _ _ _ rfl (hO.out.alloc _) ⟨wr.heap.size, 0, none⟩ 1 1 (vC c p) rfl rfl (fun j u h => by rw [Addr.add_lit]; exact vC_cells (heap_alloc _ _).1 j u h) (vC_one _ _) (by have := hfl.out; unfold maxLen; omega) (by have := hfl.out; omega) (by have := hsz.out; simp only [World.size_alloc]; omega) ?_
                     intro v' w5 hO5 hg5 _
                     have hb5 := (belowA hB.out (.cells #[.string ⟨c.toArray⟩, .string ⟨p.toArray⟩] 58)).grown hg5 (by have := hsz.out; simp only [World.size_alloc]; omega) (fun k hk => ((hO.out.alloc (.cells #[.string ⟨c.toArray⟩, .string ⟨p.toArray⟩] 58)).lt k hk).1)
                     obtain ⟨m1, m2, rfl⟩ := owns_shp hO5
                     have f0 := (hb5.cell (p := ⟨b, o + k * 2, none⟩) hb).trans hcell.out.1
                     have f1 := (hb5.cell (p := ⟨b, o + k * 2 + 1, none⟩) hb).trans hcell.out.2
                     have hsz5 := hb5.size
                     have hbw5 : b < w5.heap.size := Nat.lt_of_lt_of_le hb hsz5
                     replace hsz5 := Lib.hid hsz5
                     replace hO5 := Lib.hid hO5
                     replace hb5 := Lib.hid hb5))
                go_roundw
                case rel =>
                  refine ⟨k + 1, by omega, by simp, by rw [n1.out], ?_, hb6⟩
                  rw [n3.out, List.length_append, atC_app]
                  have := hO6.out
                  rw [List.append_assoc] at this
                  exact Lib.hid this
                case measure => simp [intOf]; omega
        · obtain rfl : k = N := by omega
          have hki : ¬ (k : Int) < (k : Int) := by omega
          have hend := out_end (E := E) (c := c) (p := p)
          rw [hN.out] at hend
          cases hpl : plE E c k with
          | true =>
            rw [hpl, if_pos rfl] at hend
            replace hend := Lib.hid hend
            replace hpl := Lib.hid hpl
            have hX := Lib.hid (owns_edge hO.out)
            go_wp2
            go_ret2
            rw [ha.out, hend.out]
            exact ⟨⟨_, rfl, hX.out⟩, hB.out⟩
          | false =>
            rw [hpl, if_neg (by simp)] at hend
            replace hend := Lib.hid hend
            replace hpl := Lib.hid hpl
            go_wp2_with (at_builtin; refine wpList_append_own _ rfl _ _ 23 rfl w.heap.size 58 i0 _ 2 32 underE hi hz0 hz1 hz2 rfl (by decide) _ _ _ rfl (hO.out.alloc _) ⟨wr.heap.size, 0, none⟩ 1 1 (vC c p) rfl rfl (fun j u h => by rw [Addr.add_lit]; exact vC_cells (heap_alloc _ _).1 j u h) (vC_one _ _) (by have := hfl.out; unfold maxLen; omega) (by have := hfl.out; omega) (by have := hsz.out; simp only [World.size_alloc]; omega) ?_
                         intro v' w5 hO5 hg5 _
                         have hb5 := (belowA hB.out (.cells #[.string ⟨c.toArray⟩, .string ⟨p.toArray⟩] 58)).grown hg5 (by have := hsz.out; simp only [World.size_alloc]; omega) (fun k hk => ((hO.out.alloc (.cells #[.string ⟨c.toArray⟩, .string ⟨p.toArray⟩] 58)).lt k hk).1)
                         obtain ⟨m1, m2, rfl⟩ := owns_shp hO5
                         have hX := Lib.hid (owns_edge (E := outE E c p k ++ [(c, p)]) (base := w.heap.size) (by rw [List.length_append, atC_app]; exact hO5))
                         replace hO5 := Lib.hid hO5
                         replace hb5 := Lib.hid hb5)
            go_ret2
            rw [ha.out, hend.out]
            exact ⟨⟨_, rfl, hX.out⟩, hb5.out⟩
theorem refAdd_any (v : Value) (E : Ats) (c p : Txt) (w : World) (hA : AtS w v E) (hl : E.length ≤ 1000) :
    Calls Try.prog 24 #[v, .string ⟨c.toArray⟩, .string ⟨p.toArray⟩] w fun e w' => PairA w' e (addE E c p) ∧ Below w.heap.size w w' := by
  by_cases h1 : c = [] ∨ p = [] ∨ rightE E = false
  · exact refAdd_form v E c p w hA hl h1
  · have hc : c ≠ [] := fun h => h1 (.inl h)
    have hp : p ≠ [] := fun h => h1 (.inr (.inl h))
    have hr : rightE E = true := by cases h : rightE E with
      | true => rfl
      | false => exact absurd (.inr (.inr h)) h1
    by_cases h2 : c = p ∨ isUpE E c p = true
    · exact refAdd_cycle v E c p w hA hl hc hp hr h2
    · have hcp : c ≠ p := fun h => h2 (.inl h)
      have hu : isUpE E c p = false := by cases h : isUpE E c p with
        | false => rfl
        | true => exact absurd (.inr h) h2
      exact refAdd_rest v E c p w hA hl hc hp hr hcp hu
end Go.Proofs.Ytgodmppmiamhaaa
