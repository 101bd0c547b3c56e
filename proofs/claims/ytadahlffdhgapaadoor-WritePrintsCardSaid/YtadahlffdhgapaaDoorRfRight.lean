/-
  Whether tokens are right, by the reference (heliographref04.Right). Conditions: no text beyond the reach; the library's tables are as they were laid.
-/
import Derived.Test.YtadahlffdhgapaaDoorRfOne
import Derived.Test.YtadahlffdhgapaaDoorWrWalk
import Derived.Test.YtadahlffdhgapaaDoorWrWhole
import Derived.Test.YtadahlffdhgapaaDoorWrOps
import Derived.Test.YtadahlffdhgapaaDoorFloat
namespace Go.Proofs.YtadahlffdhgapaaDoor
set_option linter.unusedVariables false
set_option linter.unusedSimpArgs false
open Go.RowKit Go.MapKept
theorem right_stop {l : List Tk} {i : Nat} (hi : i < l.length) (h : opsTo l (i + 1) = none) : rightL l = false := by
  have := opsTo_none h (l.length - (i + 1))
  rw [show i + 1 + (l.length - (i + 1)) = l.length by omega] at this
  unfold rightL
  rw [this]
  simp
theorem right_at {l : List Tk} {op : List (List UInt8)} (h64 : l.length ≤ 64) (h : opsTo l l.length = some op) : rightL l = (op == []) := by
  unfold rightL
  rw [h]
  simp [h64]
theorem ops_step {l : List Tk} {i : Nat} {op : List (List UInt8)} (hi : i < l.length) (h : opsTo l i = some op) : opsTo l (i + 1) = stepT (prevK l i) op (l[i]'hi) := by
  rw [opsTo, h, List.getElem?_eq_getElem hi]
set_option maxRecDepth 100000 in
set_option maxHeartbeats 8000000 in
theorem refRight_any (tv : Value) (l : List Tk) (w : World) (hT : TkS w tv l) (hsm : ∀ tk ∈ l, tk.small) (hU : U8T w) :
    Calls Tryd.prog 10 #[tv] w fun e w' => e = .returned (.bool (rightL l)) ∧ Below w.heap.size w w' := by
  obtain ⟨i0, hi, hz0, hz1, hz2⟩ := info_parts infoS
  obtain ⟨vp, vc, rfl, hc1, hc2, hcell⟩ := hT
  by_cases h64 : l.length ≤ 64
  · have h64b : decide (64 < (l.length : Int)) = false := by simp; omega
    have hn9 : (l.length : Int) ≤ 9223372036854775807 := by omega
    have hEnd := fun op (h : opsTo l l.length = some op) => right_at h64 h
    have hStop := fun i (hi : i < l.length) (h : opsTo l (i + 1) = none) => right_stop hi h
    have hOne : Hid (∀ tk sv W, tk ∈ l → AtS W sv tk.as → Below w.heap.size w W → Calls Tryd.prog 24 #[.agg (tkC tk sv)] W fun e w' => e = .returned (.bool (rightT tk)) ∧ Below W.heap.size W w') := Lib.hid fun tk sv W h1 h2 h3 => refOne_any tk sv W h2 (hsm tk h1) (hU.below h3)
    generalize hRL : rightL l = RL at *
    replace hRL := Lib.hid hRL
    replace hEnd := Lib.hid hEnd
    replace hStop := Lib.hid hStop
    replace hU := Lib.hid hU
    replace hsm := Lib.hid hsm
    replace hcell := Lib.hid hcell
    go_enter Tryd.func10, Tryd.ntmps10
    go_wp2_with fail
    go_loopw [3, 4] (fun s3 s4 wr => ∃ (i : Nat) (op : List (List UInt8)), i ≤ l.length ∧ s4 = .int .i64 i ∧ Hid (opsTo l i = some op) ∧ op.length ≤ 8 ∧ Hid (wr.ownsRow w.heap.size 9 1 s3 op.length (nameCells op)) ∧ Hid (Below w.heap.size w wr)) (fun _ s4 _ => l.length - (intOf s4).toNat)
    case atStart =>
      exact ⟨0, [], by omega, rfl, Lib.hid rfl, by simp, Lib.hid ⟨rfl, .inl ⟨rfl, rfl⟩⟩, Lib.hid (Below.refl _ _)⟩
    case round =>
      obtain ⟨i, op, hil, rfl, hop, h8, hO, hB⟩ := hrel
      obtain ⟨sp, sc, rfl⟩ := owns_shape hO.out
      by_cases hlt : i < l.length
      · obtain ⟨b, o, rfl, hb, hcc⟩ := hcell.out (by omega)
        obtain ⟨sv, c0, c1, c2, c3, hA⟩ := hcc i hlt
        have hsz := hB.out.size
        have hbr : b < wr.heap.size := by omega
        obtain ⟨kc, kf⟩ := bat hB.out b hb
        replace c0 := (kc _).trans c0
        replace c1 := (kc _).trans c1
        replace c2 := (kc _).trans c2
        replace c3 := (kc _).trans c3
        have hA2 := hA.below hB.out
        have hstep := ops_step hlt hop.out
        have hmem := List.getElem_mem hlt
        have hst0 := hStop.out i hlt
        have hpr : ∀ m, i = m + 1 → ∃ kk : Int, wr.cell? ⟨b, o + m * 4, none⟩ = some (.int .u8 kk) ∧ prevK l i = kk := fun m e => by
          obtain ⟨sv', d0, -⟩ := hcc m (by omega)
          refine ⟨_, (kc _).trans d0, ?_⟩
          unfold prevK
          rw [if_neg (by omega), show i - 1 = m by omega, List.getElem?_eq_getElem (by omega)]
          rfl
        clear hcc kc kf hA
        have hii : (i : Int) < l.length := by omega
        generalize l[i] = tk at c0 c1 c2 c3 hA2 hstep hmem
        obtain ⟨k, n, al, t⟩ := tk
        simp only at c0 c1 c2 c3 hA2
        have hsvs := hA2
        obtain ⟨ap, ac, rfl, -⟩ := hsvs
        have hO1 := Lib.hid (hOne.out ⟨k, n, al, t⟩ (.slice ap al.length ac) (wr.alloc (.cells #[.int .u8 k, .string ⟨n.toArray⟩, .slice ap al.length ac, .string ⟨t.toArray⟩] 42)) hmem (hA2.below (below1 _ _)) (belowT hB.out (below1 _ _)))
        replace hA2 := Lib.hid hA2
        cases hrt : rightT ⟨k, n, al, t⟩
        · have hnone : opsTo l (i + 1) = none := by rw [hstep]; unfold stepT; rw [if_pos hrt]
          have hRf := Lib.hid (hst0 hnone)
          rw [hrt] at hO1
          clear hnone hstep hst0 hpr
          replace hrt := Lib.hid hrt
          unfold tkC at hO1
          go_wp2_with (go_at_call 24; refine hO1.out.mono ?_; rintro e w1 ⟨rfl, hb1⟩; replace hb1 := Lib.hid hb1)
          go_ret
          exact ⟨by rw [hRf.out]; rfl, belowT (belowT hB.out (below1 _ _)) hb1.out⟩
        · have hk3 := right_kind hrt
          rw [hrt] at hO1
          unfold stepT at hstep
          rw [if_neg (by rw [hrt]; simp)] at hstep
          simp only at hk3 hstep
          replace hrt := Lib.hid hrt
          unfold tkC at hO1
          replace hst0 := Lib.hid hst0
          rcases hk3 with rfl | rfl | rfl
          · have hstep1 : opsTo l (i + 1) = if op.length < 8 then some (op ++ [n]) else none := by
              rw [hstep]; simp
            clear hstep
            by_cases h7 : op.length < 8
            · have h7b : decide (8 ≤ (op.length : Int)) = false := by simp; omega
              rw [if_pos h7] at hstep1
              replace hstep1 := Lib.hid hstep1
              clear hpr hst0
              go_wp2_with (first
                | (have m0 := hO2; at_builtin; refine wpList_append_own _ rfl _ _ 55 rfl w.heap.size 9 i0 _ 1 16 Tryd.underlying55 hi hz0 hz1 hz2 rfl (by decide) _ _ _ rfl (hO2.out.alloc _) ⟨w1.heap.size, 0, none⟩ 1 1 [.string ⟨n.toArray⟩] rfl rfl (cell_one_new _ _ _) (by simp [Value.oneCell']) (by unfold maxLen; omega) (by omega) (by have := hB1.out.size; simp only [World.size_alloc]; omega) ?_
                   intro v' w3 hO3 hg3 _
                   have hO4 : Hid (w3.ownsRow w.heap.size 9 1 v' (op ++ [n]).length (nameCells (op ++ [n]))) := Lib.hid (by simpa [nameCells] using hO3)
                   have hB3 := Lib.hid ((hB1.out.alloc hB1.out.size (.cells #[.string ⟨n.toArray⟩] 9)).grown hg3 (by have := hB1.out.size; simp only [World.size_alloc]; omega) (fun k hk => ((hO2.out.alloc (.cells #[.string ⟨n.toArray⟩] 9)).lt k hk).1))
                   clear hO3 hg3)
                | (go_at_call 24; refine hO1.out.mono ?_; rintro e w1 ⟨rfl, hb1⟩; obtain ⟨tc, tf⟩ := bat hb1 wr.heap.size (by simp); have tl := Nat.lt_of_lt_of_le (by simp : wr.heap.size < (wr.alloc (.cells #[.int .u8 1, .string ⟨n.toArray⟩, .slice ap al.length ac, .string ⟨t.toArray⟩] 42)).heap.size) hb1.size; have hO2 := Lib.hid (owns_keep (hO.out.alloc (.cells #[.int .u8 1, .string ⟨n.toArray⟩, .slice ap al.length ac, .string ⟨t.toArray⟩] 42)) (fun g _ h => hb1.block g h)); have hB1 := Lib.hid (belowT (belowT hB.out (below1 _ _)) hb1);  replace hb1 := Lib.hid hb1))
              refine ⟨⟨i + 1, op ++ [n], by omega, by simp, hstep1, by simp; omega, hO4, hB3⟩, by simp [intOf]; omega⟩
            · have h7b : decide (8 ≤ (op.length : Int)) = true := by simp; omega
              rw [if_neg h7] at hstep1
              have hRf := Lib.hid (hst0.out hstep1)
              clear hstep1 hpr hst0
              go_wp2_with (go_at_call 24; refine hO1.out.mono ?_; rintro e w1 ⟨rfl, hb1⟩; obtain ⟨tc, tf⟩ := bat hb1 wr.heap.size (by simp); have tl := Nat.lt_of_lt_of_le (by simp : wr.heap.size < (wr.alloc (.cells #[.int .u8 1, .string ⟨n.toArray⟩, .slice ap al.length ac, .string ⟨t.toArray⟩] 42)).heap.size) hb1.size; have hO2 := Lib.hid (owns_keep (hO.out.alloc (.cells #[.int .u8 1, .string ⟨n.toArray⟩, .slice ap al.length ac, .string ⟨t.toArray⟩] 42)) (fun g _ h => hb1.block g h)); have hB1 := Lib.hid (belowT (belowT hB.out (below1 _ _)) hb1);  replace hb1 := Lib.hid hb1)
              go_ret
              exact ⟨by rw [hRf.out]; rfl, hB1.out⟩
          · have hstep1 : opsTo l (i + 1) = if 0 < op.length ∧ op.getD (op.length - 1) [] = n then some (op.take (op.length - 1)) else none := by
              rw [hstep]; simp
            clear hstep hpr
            by_cases h0 : op.length = 0
            · have h0b : ((op.length : Int) == 0) = true := by rw [beq_iff_eq]; omega
              rw [if_neg (by omega)] at hstep1
              have hRf := Lib.hid (hst0.out hstep1)
              clear hstep1 hst0
              go_wp2_with (go_at_call 24; refine hO1.out.mono ?_; rintro e w1 ⟨rfl, hb1⟩; obtain ⟨tc, tf⟩ := bat hb1 wr.heap.size (by simp); have tl := Nat.lt_of_lt_of_le (by simp : wr.heap.size < (wr.alloc (.cells #[.int .u8 2, .string ⟨n.toArray⟩, .slice ap al.length ac, .string ⟨t.toArray⟩] 42)).heap.size) hb1.size; have hO2 := Lib.hid (owns_keep (hO.out.alloc (.cells #[.int .u8 2, .string ⟨n.toArray⟩, .slice ap al.length ac, .string ⟨t.toArray⟩] 42)) (fun g _ h => hb1.block g h)); have hB1 := Lib.hid (belowT (belowT hB.out (below1 _ _)) hb1); replace hb1 := Lib.hid hb1)
              refine wp_region_float (by kernel_rfl) (by kernel_rfl) (fun W => W = w1.drew) rfl ?_
              simp only [List.toList_toArray]
              repeat (first
                | (apply Flo.skip; · rfl
                   simp only [Act.put, List.setIfInBounds_toArray, List.set_cons_zero, List.set_cons_succ])
                | (apply Flo.val; · rfl
                   · (rintro W rfl; go_simp; with_reducible rfl)
                   simp only [Act.put, List.setIfInBounds_toArray, List.set_cons_zero, List.set_cons_succ])
                | fail)
              rintro W rfl
              go_wp2_with fail
              go_ret
              exact ⟨by rw [hRf.out]; rfl, hB1.out.drew⟩
            · have h0b : ((op.length : Int) == 0) = false := by rw [beq_eq_false_iff_ne]; omega
              obtain ⟨m, hm⟩ : ∃ m, op.length = m + 1 := ⟨op.length - 1, by omega⟩
              have hlm : (op.length : Int) - 1 = (m : Int) := by omega
              rw [show op.length - 1 = m by omega] at hstep1
              have hgd : op.getD m [] = op[m]'(by omega) := by simp [List.getD, List.getElem?_eq_getElem (show m < op.length by omega)]
              rw [hgd] at hstep1
              obtain ⟨g, hsp, hle⟩ : ∃ g, sp = some ⟨g, 0, none⟩ ∧ op.length ≤ sc := by
                rcases hO.out.2 with ⟨hv, h9⟩ | ⟨g, cap, cur, hv, _, _, h9, -⟩
                · omega
                · injection hv with e1 _ e3; exact ⟨g, e1, by rw [e3]; exact h9⟩
              subst hsp
              have hms : (m : Int) ≤ sc := by omega
              have hix : ∀ W, (Instr.indexAt 55 (.slice (some ⟨g, 0, none⟩) (m + 1) sc) (.int .i64 (m : Int))).run Tryd.prog W = .ok (.pointer (some ⟨g, m, none⟩)) W := fun W => ix_top g m sc W
              have hwm := wrapM m (by omega)
              have hm0 : ((m : Int) + 1 == 0) = false := by rw [beq_eq_false_iff_ne]; omega
              have hTop : Hid (∀ W : World, W.ownsRow w.heap.size 9 1 (.slice (some ⟨g, 0, none⟩) op.length sc) op.length (nameCells op) → W.cell? ⟨g, m, none⟩ = some (.string ⟨(op[m]'(by omega)).toArray⟩)) := Lib.hid fun W h => by
                have := World.ownsRow.cells h (g := g) rfl m (.string ⟨(op[m]'(by omega)).toArray⟩) (by simp [nameCells])
                simpa [Addr.add_lit] using this
              have hTk : Hid (∀ W : World, W.ownsRow w.heap.size 9 1 (.slice (some ⟨g, 0, none⟩) op.length sc) op.length (nameCells op) → W.drew.ownsRow w.heap.size 9 1 (.slice (some ⟨g, 0, none⟩) m sc) (op.take m).length (nameCells (op.take m))) := Lib.hid fun W h => owns_take (by omega) h
              have htl : (op.take m).length = m := by simp; omega
              generalize op[m]'(by omega) = top at hstep1 hTop
              by_cases hne : top = n
              · have hne2 := hne.symm
                clear hne
                subst hne2
                rw [if_pos ⟨by omega, rfl⟩] at hstep1
                replace hstep1 := Lib.hid hstep1
                clear hst0 hgd
                go_wp2_with (go_at_call 24; refine hO1.out.mono ?_; rintro e w1 ⟨rfl, hb1⟩; obtain ⟨tc, tf⟩ := bat hb1 wr.heap.size (by simp); have tl := Nat.lt_of_lt_of_le (by simp : wr.heap.size < (wr.alloc (.cells #[.int .u8 2, .string ⟨n.toArray⟩, .slice ap al.length ac, .string ⟨t.toArray⟩] 42)).heap.size) hb1.size; have hO2 := Lib.hid (owns_keep (hO.out.alloc (.cells #[.int .u8 2, .string ⟨n.toArray⟩, .slice ap al.length ac, .string ⟨t.toArray⟩] 42)) (fun g _ h => hb1.block g h)); have hB1 := Lib.hid (belowT (belowT hB.out (below1 _ _)) hb1); replace hb1 := Lib.hid hb1)
                have hcc := hTop.out _ hO2.out
                refine wp_region_float (by kernel_rfl) (by kernel_rfl) (fun W => W = w1.drew) rfl ?_
                simp only [List.toList_toArray]
                repeat (first
                  | (apply Flo.skip; · rfl
                     simp only [Act.put, List.setIfInBounds_toArray, List.set_cons_zero, List.set_cons_succ])
                  | (apply Flo.val; · rfl
                     · (rintro W rfl; first | (go_simp; with_reducible rfl) | exact exec_index rfl rfl rfl (hix _))
                     simp only [Act.put, List.setIfInBounds_toArray, List.set_cons_zero, List.set_cons_succ])
                  | fail)
                rintro W rfl
                have hT2 := Lib.hid (hTk.out _ hO2.out)
                go_wp2_with fail
                refine ⟨⟨i + 1, op.take m, by omega, by simp, hstep1, by omega, ?_, Lib.hid hB1.out.drew⟩, by simp [intOf]; omega⟩
                have := hT2.out
                rw [htl] at this ⊢
                exact Lib.hid this
              · have hne2 : (top == n) = false := by simpa using hne
                rw [if_neg (by simp [hne])] at hstep1
                have hRf := Lib.hid (hst0.out hstep1)
                clear hstep1 hst0 hgd hne
                go_wp2_with (go_at_call 24; refine hO1.out.mono ?_; rintro e w1 ⟨rfl, hb1⟩; obtain ⟨tc, tf⟩ := bat hb1 wr.heap.size (by simp); have tl := Nat.lt_of_lt_of_le (by simp : wr.heap.size < (wr.alloc (.cells #[.int .u8 2, .string ⟨n.toArray⟩, .slice ap al.length ac, .string ⟨t.toArray⟩] 42)).heap.size) hb1.size; have hO2 := Lib.hid (owns_keep (hO.out.alloc (.cells #[.int .u8 2, .string ⟨n.toArray⟩, .slice ap al.length ac, .string ⟨t.toArray⟩] 42)) (fun g _ h => hb1.block g h)); have hB1 := Lib.hid (belowT (belowT hB.out (below1 _ _)) hb1); replace hb1 := Lib.hid hb1)
                have hcc := hTop.out _ hO2.out
                refine wp_region_float (by kernel_rfl) (by kernel_rfl) (fun W => W = w1.drew) rfl ?_
                simp only [List.toList_toArray]
                repeat (first
                  | (apply Flo.skip; · rfl
                     simp only [Act.put, List.setIfInBounds_toArray, List.set_cons_zero, List.set_cons_succ])
                  | (apply Flo.val; · rfl
                     · (rintro W rfl; first | (go_simp; with_reducible rfl) | exact exec_index rfl rfl rfl (hix _))
                     simp only [Act.put, List.setIfInBounds_toArray, List.set_cons_zero, List.set_cons_succ])
                  | fail)
                rintro W rfl
                go_wp2_with fail
                go_ret
                exact ⟨by rw [hRf.out]; rfl, hB1.out.drew⟩
          · have hstep1 : opsTo l (i + 1) = if 0 < op.length ∧ prevK l i ≠ 3 then some op else none := by
              rw [hstep]; simp
            clear hstep
            by_cases h0 : op.length = 0
            · have h0b : ((op.length : Int) == 0) = true := by rw [beq_iff_eq]; omega
              rw [if_neg (by omega)] at hstep1
              have hRf := Lib.hid (hst0.out hstep1)
              clear hstep1 hpr hst0
              go_wp2_with (go_at_call 24; refine hO1.out.mono ?_; rintro e w1 ⟨rfl, hb1⟩; obtain ⟨tc, tf⟩ := bat hb1 wr.heap.size (by simp); have tl := Nat.lt_of_lt_of_le (by simp : wr.heap.size < (wr.alloc (.cells #[.int .u8 3, .string ⟨n.toArray⟩, .slice ap al.length ac, .string ⟨t.toArray⟩] 42)).heap.size) hb1.size; have hO2 := Lib.hid (owns_keep (hO.out.alloc (.cells #[.int .u8 3, .string ⟨n.toArray⟩, .slice ap al.length ac, .string ⟨t.toArray⟩] 42)) (fun g _ h => hb1.block g h)); have hB1 := Lib.hid (belowT (belowT hB.out (below1 _ _)) hb1);  replace hb1 := Lib.hid hb1)
              go_ret
              exact ⟨by rw [hRf.out]; rfl, hB1.out⟩
            · have h0b : ((op.length : Int) == 0) = false := by rw [beq_eq_false_iff_ne]; omega
              rcases Nat.eq_zero_or_pos i with hi0 | hi0
              · subst hi0
                rw [if_pos ⟨by omega, by simp [prevK]⟩] at hstep1
                replace hstep1 := Lib.hid hstep1
                clear hpr hst0
                have z0 : ((0 : Nat) : Int) = 0 := rfl
                rw [z0] at hii ⊢
                simp only [Nat.zero_mul, Nat.add_zero] at c0 c1 c2 c3
                go_wp2_with (go_at_call 24; refine hO1.out.mono ?_; rintro e w1 ⟨rfl, hb1⟩; obtain ⟨tc, tf⟩ := bat hb1 wr.heap.size (by simp); have tl := Nat.lt_of_lt_of_le (by simp : wr.heap.size < (wr.alloc (.cells #[.int .u8 3, .string ⟨n.toArray⟩, .slice ap al.length ac, .string ⟨t.toArray⟩] 42)).heap.size) hb1.size; have hO2 := Lib.hid (owns_keep (hO.out.alloc (.cells #[.int .u8 3, .string ⟨n.toArray⟩, .slice ap al.length ac, .string ⟨t.toArray⟩] 42)) (fun g _ h => hb1.block g h)); have hB1 := Lib.hid (belowT (belowT hB.out (below1 _ _)) hb1);  replace hb1 := Lib.hid hb1)
                refine ⟨⟨1, op, by omega, by simp, hstep1, h8, hO2, hB1⟩, by simp [intOf]; omega⟩
              · obtain ⟨m, rfl⟩ : ∃ m, i = m + 1 := ⟨i - 1, by omega⟩
                obtain ⟨kk, d0, hpk⟩ := hpr m rfl
                rw [hpk] at hstep1
                have i1 : ((m + 1 : Nat) : Int) = (m : Int) + 1 := by omega
                have hmm : (m : Int) < l.length := by omega
                have hmp : 0 < (m : Int) + 1 := by omega
                by_cases h3 : kk = 3
                · subst h3
                  rw [if_neg (by simp)] at hstep1
                  have hRf := Lib.hid (hst0.out hstep1)
                  clear hstep1 hpr hst0
                  go_wp2_with (go_at_call 24; refine hO1.out.mono ?_; rintro e w1 ⟨rfl, hb1⟩; obtain ⟨tc, tf⟩ := bat hb1 wr.heap.size (by simp); have tl := Nat.lt_of_lt_of_le (by simp : wr.heap.size < (wr.alloc (.cells #[.int .u8 3, .string ⟨n.toArray⟩, .slice ap al.length ac, .string ⟨t.toArray⟩] 42)).heap.size) hb1.size; have hO2 := Lib.hid (owns_keep (hO.out.alloc (.cells #[.int .u8 3, .string ⟨n.toArray⟩, .slice ap al.length ac, .string ⟨t.toArray⟩] 42)) (fun g _ h => hb1.block g h)); have hB1 := Lib.hid (belowT (belowT hB.out (below1 _ _)) hb1); have dd0 := ((bat hb1 b (by simp; omega)).1 (o + m * 4)); have hbl := Nat.lt_of_lt_of_le (by simp; omega : b < (wr.alloc (.cells #[.int .u8 3, .string ⟨n.toArray⟩, .slice ap al.length ac, .string ⟨t.toArray⟩] 42)).heap.size) hb1.size; replace hb1 := Lib.hid hb1)
                  go_ret
                  exact ⟨by rw [hRf.out]; rfl, hB1.out⟩
                · have h3b : (kk == 3) = false := by simpa using h3
                  rw [if_pos ⟨by omega, h3⟩] at hstep1
                  replace hstep1 := Lib.hid hstep1
                  clear hpr hst0
                  go_wp2_with (go_at_call 24; refine hO1.out.mono ?_; rintro e w1 ⟨rfl, hb1⟩; obtain ⟨tc, tf⟩ := bat hb1 wr.heap.size (by simp); have tl := Nat.lt_of_lt_of_le (by simp : wr.heap.size < (wr.alloc (.cells #[.int .u8 3, .string ⟨n.toArray⟩, .slice ap al.length ac, .string ⟨t.toArray⟩] 42)).heap.size) hb1.size; have hO2 := Lib.hid (owns_keep (hO.out.alloc (.cells #[.int .u8 3, .string ⟨n.toArray⟩, .slice ap al.length ac, .string ⟨t.toArray⟩] 42)) (fun g _ h => hb1.block g h)); have hB1 := Lib.hid (belowT (belowT hB.out (below1 _ _)) hb1); have dd0 := ((bat hb1 b (by simp; omega)).1 (o + m * 4)); have hbl := Nat.lt_of_lt_of_le (by simp; omega : b < (wr.alloc (.cells #[.int .u8 3, .string ⟨n.toArray⟩, .slice ap al.length ac, .string ⟨t.toArray⟩] 42)).heap.size) hb1.size; replace hb1 := Lib.hid hb1)
                  refine ⟨⟨m + 1 + 1, op, by omega, by simp, hstep1, h8, hO2, hB1⟩, by simp [intOf]; omega⟩
      · obtain rfl : i = l.length := by omega
        have hE := hEnd.out op hop.out
        have hl0 : ((op.length : Int) == 0) = (op == []) := by cases op with | nil => rfl | cons a r => (rw [beq_eq_false_iff_ne.2 (by simp; omega)]; rfl)
        replace hE := Lib.hid hE
        go_wp2_with fail
        go_ret
        exact ⟨by rw [hE.out]; simp [hl0], hB.out⟩
  · have h64b : decide (64 < (l.length : Int)) = true := by simp; omega
    have hR : rightL l = false := by unfold rightL; simp [h64]
    rw [hR]
    go_enter Tryd.func10, Tryd.ntmps10
    go_wp2_with fail
    go_ret
    exact ⟨rfl, Below.refl _ _⟩
end Go.Proofs.YtadahlffdhgapaaDoor
