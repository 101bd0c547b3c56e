/-
  The reference's Same.
-/
import Derived.Test.YtcfkegfddiglcaaDoorWrSame2
import Derived.Deep.DeepCutAuto
namespace Go.Proofs.YtcfkegfddiglcaaDoor
set_option linter.unusedVariables false
set_option linter.unusedSimpArgs false
open Go.RowKit Go.MapKept Go.Shelf
def Boxes (W : World) (g h : Nat) (k1 k2 : Int) (n1 n2 t1 t2 : List UInt8) (v1 v2 : Value) : Prop :=
  W.cell? ⟨g, 0, none⟩ = some (.int .u8 k1) ∧ W.cell? ⟨g, 1, none⟩ = some (.string ⟨n1.toArray⟩) ∧ W.cell? ⟨g, 2, none⟩ = some v1 ∧ W.cell? ⟨g, 3, none⟩ = some (.string ⟨t1.toArray⟩) ∧
  W.cell? ⟨h, 0, none⟩ = some (.int .u8 k2) ∧ W.cell? ⟨h, 1, none⟩ = some (.string ⟨n2.toArray⟩) ∧ W.cell? ⟨h, 2, none⟩ = some v2 ∧ W.cell? ⟨h, 3, none⟩ = some (.string ⟨t2.toArray⟩)
set_option maxHeartbeats 4000000 in
theorem refSame_any (v1 v2 : Value) (a1 a2 : List Tk) (w : World) (h1 : TkS w v1 a1) (h2 : TkS w v2 a2) :
    Calls Tryd.prog 19 #[v1, v2] w fun e w' => e = .returned (.bool (sameL a1 a2)) ∧ Below w.heap.size w w' := by
  obtain ⟨p1, c1, rfl, hc1, hm1, hcell1⟩ := h1
  obtain ⟨p2, c2, rfl, hc2, hm2, hcell2⟩ := h2
  have hmx1 : (a1.length : Int) ≤ 9223372036854775807 := by unfold maxLen at hm1; omega
  have hmx2 : (a2.length : Int) ≤ 9223372036854775807 := by unfold maxLen at hm2; omega
  by_cases hl0 : a1.length = a2.length
  · have hl := Lib.hid hl0
    have hlI : (a1.length : Int) = (a2.length : Int) := by omega
    clear hl0
    go_enter Tryd.func19, Tryd.ntmps19
    go_wp2
    go_loopg [5] a1.length (fun gg s5 wr => ∃ kk : Nat, kk ≤ a1.length ∧ a1.length - kk ≤ gg ∧ s5 = .int .i64 kk ∧ Hid (Below w.heap.size w wr) ∧ Hid (∀ j (h1 : j < a1.length) (h2 : j < a2.length), j < kk → (a1[j]'h1).same (a2[j]'h2) = true))
    case atStart => exact ⟨0, Nat.zero_le _, by omega, rfl, Below.refl _ w, fun j _ _ hj => absurd hj (Nat.not_lt_zero _)⟩
    case round =>
      obtain ⟨kk, hkk, hg, rfl, BW, A⟩ := hrel
      by_cases hlt : kk < a1.length
      · obtain ⟨b1, o1, rfl, hb1, hcc1⟩ := hcell1 (by omega)
        obtain ⟨b2, o2, rfl, hb2, hcc2⟩ := hcell2 (by omega)
        have hlt2 : kk < a2.length := by have := hl.out; omega
        obtain ⟨u1, d0, d1, d2, d3, hat1⟩ := hcc1 kk hlt
        obtain ⟨u2, e0, e1, e2, e3, hat2⟩ := hcc2 kk hlt2
        have k1 := fun (j : Nat) => BW.out.cell (p := ⟨b1, j, none⟩) hb1
        have k2 := fun (j : Nat) => BW.out.cell (p := ⟨b2, j, none⟩) hb2
        replace d0 := (k1 _).trans d0
        replace d1 := (k1 _).trans d1
        replace d2 := (k1 _).trans d2
        replace d3 := (k1 _).trans d3
        replace e0 := (k2 _).trans e0
        replace e1 := (k2 _).trans e1
        replace e2 := (k2 _).trans e2
        replace e3 := (k2 _).trans e3
        clear k1 k2 hcc1 hcc2 hcell1 hcell2
        generalize hA1 : a1[kk] = x1 at d0 d1 d2 d3 hat1
        generalize hA2 : a2[kk] = x2 at e0 e1 e2 e3 hat2
        replace hA1 := Lib.hid hA1
        replace hA2 := Lib.hid hA2
        obtain ⟨k1, n1, as1, t1⟩ := x1
        obtain ⟨k2, n2, as2, t2⟩ := x2
        simp only at d0 d1 d2 d3 e0 e1 e2 e3 hat1 hat2
        obtain ⟨ap1, ac1, rfl⟩ : ∃ a c, u1 = .slice a as1.length c := by obtain ⟨a, c, h, -⟩ := hat1; exact ⟨a, c, h⟩
        obtain ⟨ap2, ac2, rfl⟩ : ∃ a c, u2 = .slice a as2.length c := by obtain ⟨a, c, h, -⟩ := hat2; exact ⟨a, c, h⟩
        have hb1w : b1 < wr.heap.size := Nat.lt_of_lt_of_le hb1 BW.out.size
        have hb2w : b2 < wr.heap.size := Nat.lt_of_lt_of_le hb2 BW.out.size
        replace hat1 := Lib.hid hat1
        replace hat2 := Lib.hid hat2
        have hi0 : (0 : Int) ≤ (kk : Int) := by omega
        have hi1 : (kk : Int) < (a1.length : Int) := by omega
        have hi2 : (kk : Int) < (a2.length : Int) := by omega
        go_upto_region 6 with (fail)
        go_cut [6, 7] (fun v6 v7 W => ∃ g h : Nat, v6 = .pointer (some ⟨g, 0, none⟩) ∧ v7 = .pointer (some ⟨h, 0, none⟩) ∧ Boxes W g h k1 k2 n1 n2 t1 t2 (.slice ap1 as1.length ac1) (.slice ap2 as2.length ac2) ∧ Below w.heap.size w W)
        case first =>
          go_region_held3 (fun W => W.cell? ⟨b1, o1 + kk * 4, none⟩ = some (.int .u8 k1) ∧ W.cell? ⟨b1, o1 + kk * 4 + 1, none⟩ = some (.string ⟨n1.toArray⟩) ∧ W.cell? ⟨b1, o1 + kk * 4 + 2, none⟩ = some (.slice ap1 as1.length ac1) ∧ W.cell? ⟨b1, o1 + kk * 4 + 3, none⟩ = some (.string ⟨t1.toArray⟩) ∧
            W.cell? ⟨b2, o2 + kk * 4, none⟩ = some (.int .u8 k2) ∧ W.cell? ⟨b2, o2 + kk * 4 + 1, none⟩ = some (.string ⟨n2.toArray⟩) ∧ W.cell? ⟨b2, o2 + kk * 4 + 2, none⟩ = some (.slice ap2 as2.length ac2) ∧ W.cell? ⟨b2, o2 + kk * 4 + 3, none⟩ = some (.string ⟨t2.toArray⟩)) (first | assumption | go_keep) (fail)
          all_goals go_wp2_with fail
          all_goals go_meet
          all_goals exact ⟨_, _, rfl, rfl, ⟨by simp [go_sem], by simp [go_sem], by simp [go_sem], by simp [go_sem], by simp [go_sem], by simp [go_sem], by simp [go_sem], by simp [go_sem]⟩, (belowA (belowA BW.out _) _).drew⟩
        case rest =>
          obtain ⟨g, h, rfl, rfl, ⟨z0, z1, z2, z3, y0, y1, y2, y3⟩, BX⟩ := hcut
          replace BX := Lib.hid BX
          clear d0 d1 d2 d3 e0 e1 e2 e3
          by_cases hk : k1 = k2
          · subst hk
            by_cases hn : n1 = n2
            · subst hn
              by_cases ht : t1 = t2
              · subst ht
                by_cases has : as1.length = as2.length
                · have hasH := Lib.hid has
                  have hasI : (as1.length : Int) = (as2.length : Int) := by omega
                  clear has
                  have hmxa : (as1.length : Int) ≤ 9223372036854775807 := by obtain ⟨_, _, he, hx, hy, _⟩ := hat1.out; unfold maxLen at hy; omega
                  have hmxb : (as2.length : Int) ≤ 9223372036854775807 := by omega
                  go_wp2_with fail
                  go_loopg [8] as1.length (fun gg s8 wi => ∃ jj : Nat, jj ≤ as1.length ∧ as1.length - jj ≤ gg ∧ s8 = .int .i64 jj ∧ Hid (wi.cell? ⟨g, 2, none⟩ = some (.slice ap1 as1.length ac1)) ∧ Hid (wi.cell? ⟨h, 2, none⟩ = some (.slice ap2 as2.length ac2)) ∧ Hid (Below w.heap.size w wi) ∧ Hid (∀ j (h1 : j < as1.length) (h2 : j < as2.length), j < jj → as1[j]'h1 = as2[j]'h2))
                  case atStart => exact ⟨0, Nat.zero_le _, by omega, rfl, Lib.hid z2, Lib.hid y2, BX, fun j _ _ hj => absurd hj (Nat.not_lt_zero _)⟩
                  case round =>
                    obtain ⟨jj, hjj, hgi, rfl, hg2, hh2, BI, AI⟩ := hrel
                    have w2 := hg2.out
                    have x2 := hh2.out
                    by_cases hjt : jj < as1.length
                    · have hjt2 : jj < as2.length := by have := hasH.out; omega
                      obtain ⟨apx, acx, he1, _, _, hcl1⟩ := hat1.out
                      obtain ⟨apy, acy, he2, _, _, hcl2⟩ := hat2.out
                      injection he1 with he1 _ he1c
                      injection he2 with he2 _ he2c
                      subst he1 he1c he2 he2c
                      obtain ⟨c1', q1, rfl, hcb1, hcc1⟩ := hcl1 (by omega)
                      obtain ⟨c2', q2, rfl, hcb2, hcc2⟩ := hcl2 (by omega)
                      have e0 := (BI.out.cell (p := ⟨c1', q1 + jj * 2, none⟩) hcb1).trans (hcc1 jj hjt).1
                      have e1 := (BI.out.cell (p := ⟨c1', q1 + jj * 2 + 1, none⟩) hcb1).trans (hcc1 jj hjt).2
                      have f0 := (BI.out.cell (p := ⟨c2', q2 + jj * 2, none⟩) hcb2).trans (hcc2 jj hjt2).1
                      have f1 := (BI.out.cell (p := ⟨c2', q2 + jj * 2 + 1, none⟩) hcb2).trans (hcc2 jj hjt2).2
                      clear hcc1 hcc2 hcl1 hcl2
                      have hp : Hid (decide (as1 = as2) = false ∨ as1[jj] = as2[jj]) := Lib.hid (by by_cases h : as1[jj] = as2[jj]; exact .inr h; exact .inl (decide_eq_false fun e => h (by subst e; rfl)))
                      generalize hB1 : as1[jj] = xx1 at e0 e1 hp
                      generalize hB2 : as2[jj] = xx2 at f0 f1 hp
                      replace hB1 := Lib.hid hB1
                      replace hB2 := Lib.hid hB2
                      obtain ⟨x1, y1⟩ := xx1
                      obtain ⟨x2', y2'⟩ := xx2
                      have hj0 : (0 : Int) ≤ (jj : Int) := by omega
                      have hj1 : (jj : Int) < (as1.length : Int) := by omega
                      have hj2 : (jj : Int) < (as2.length : Int) := by omega
                      go_wp2_with fail
                      by_cases hn : x1 = x2'
                      · subst hn
                        by_cases hmm : y1 = y2'
                        · subst hmm
                          go_region_held3 (fun W => W.cell? ⟨g, 2, none⟩ = some (.slice (some ⟨c1', q1, none⟩) as1.length ac1) ∧ W.cell? ⟨h, 2, none⟩ = some (.slice (some ⟨c2', q2, none⟩) as2.length ac2) ∧ W.cell? ⟨c1', q1 + jj * 2, none⟩ = some (.string ⟨x1.toArray⟩) ∧ W.cell? ⟨c1', q1 + jj * 2 + 1, none⟩ = some (.string ⟨y1.toArray⟩) ∧ W.cell? ⟨c2', q2 + jj * 2, none⟩ = some (.string ⟨x1.toArray⟩) ∧ W.cell? ⟨c2', q2 + jj * 2 + 1, none⟩ = some (.string ⟨y1.toArray⟩)) (first | assumption | exact ⟨hg2.out, hh2.out, e0, e1, f0, f1⟩) (fail)
                          go_wp2
                          go_roundg (as1.length - (jj + 1))
                          case measure => omega
                          case rel =>
                            refine ⟨jj + 1, by omega, by omega, by go_num, by first | assumption | exact Lib.hid hg2.out, by first | assumption | exact Lib.hid hh2.out, Lib.hid BI.out.drew, Lib.hid (fun j h1 h2 h => ?_)⟩
                            by_cases e : j = jj
                            · subst e
                              rw [hB1.out, hB2.out]
                            · exact AI.out j h1 h2 (by omega)
                        · go_region_held3 (fun W => W.cell? ⟨g, 2, none⟩ = some (.slice (some ⟨c1', q1, none⟩) as1.length ac1) ∧ W.cell? ⟨h, 2, none⟩ = some (.slice (some ⟨c2', q2, none⟩) as2.length ac2) ∧ W.cell? ⟨c1', q1 + jj * 2, none⟩ = some (.string ⟨x1.toArray⟩) ∧ W.cell? ⟨c1', q1 + jj * 2 + 1, none⟩ = some (.string ⟨y1.toArray⟩) ∧ W.cell? ⟨c2', q2 + jj * 2, none⟩ = some (.string ⟨x1.toArray⟩) ∧ W.cell? ⟨c2', q2 + jj * 2 + 1, none⟩ = some (.string ⟨y2'.toArray⟩)) (first | assumption | exact ⟨hg2.out, hh2.out, e0, e1, f0, f1⟩) (fail)
                          go_wp2
                          go_ret
                          exact ⟨by rw [same_not (i := kk) (h1 := hlt) (h2 := hlt2) (by rw [hA1.out, hA2.out]; simp [Tk.same, hp.out.resolve_right (by simp [*])])]; rfl, BI.out.drew⟩
                      · go_region_held3 (fun W => W.cell? ⟨g, 2, none⟩ = some (.slice (some ⟨c1', q1, none⟩) as1.length ac1) ∧ W.cell? ⟨h, 2, none⟩ = some (.slice (some ⟨c2', q2, none⟩) as2.length ac2) ∧ W.cell? ⟨c1', q1 + jj * 2, none⟩ = some (.string ⟨x1.toArray⟩) ∧ W.cell? ⟨c1', q1 + jj * 2 + 1, none⟩ = some (.string ⟨y1.toArray⟩) ∧ W.cell? ⟨c2', q2 + jj * 2, none⟩ = some (.string ⟨x2'.toArray⟩) ∧ W.cell? ⟨c2', q2 + jj * 2 + 1, none⟩ = some (.string ⟨y2'.toArray⟩)) (first | assumption | exact ⟨hg2.out, hh2.out, e0, e1, f0, f1⟩) (fail)
                        go_wp2
                        go_ret
                        exact ⟨by rw [same_not (i := kk) (h1 := hlt) (h2 := hlt2) (by rw [hA1.out, hA2.out]; simp [Tk.same, hp.out.resolve_right (by simp [*])])]; rfl, BI.out.drew⟩
                    · have : jj = as1.length := by omega
                      subst this
                      have heq : Hid (as1 = as2) := Lib.hid (List.ext_getElem hasH.out fun i h1 h2 => AI.out i h1 h2 h1)
                      go_wp2_with fail
                      go_roundg (a1.length - (kk + 1))
                      case measure => omega
                      case rel =>
                        refine ⟨kk + 1, by omega, by omega, by go_num, BI, Lib.hid (fun j h1 h2 h => ?_)⟩
                        by_cases e : j = kk
                        · subst e
                          rw [hA1.out, hA2.out, heq.out]; simp [Tk.same]
                        · exact A.out j h1 h2 (by omega)
                · have hne : as1 ≠ as2 := fun e => has (by rw [e])
                  have hasI : ¬ ((as1.length : Int) = (as2.length : Int)) := by omega
                  go_wp2_with fail
                  go_ret
                  exact ⟨by rw [same_not (i := kk) (h1 := hlt) (h2 := hlt2) (by rw [hA1.out, hA2.out]; simp [Tk.same, hne])]; rfl, BX.out⟩
              · go_wp2_with fail
                go_ret
                exact ⟨by rw [same_not (i := kk) (h1 := hlt) (h2 := hlt2) (by rw [hA1.out, hA2.out]; simp [Tk.same, ht])]; rfl, BX.out⟩
            · go_wp2_with fail
              go_ret
              exact ⟨by rw [same_not (i := kk) (h1 := hlt) (h2 := hlt2) (by rw [hA1.out, hA2.out]; simp [Tk.same, hn])]; rfl, BX.out⟩
          · go_wp2_with fail
            go_ret
            exact ⟨by rw [same_not (i := kk) (h1 := hlt) (h2 := hlt2) (by rw [hA1.out, hA2.out]; simp [Tk.same, hk])]; rfl, BX.out⟩
      · have : kk = a1.length := by omega
        subst this
        go_wp2
        go_ret
        exact ⟨by rw [same_of hl.out fun i h1 h2 => A.out i h1 h2 h1]; rfl, BW.out⟩
  · rw [same_nlen hl0]
    go_enter Tryd.func19, Tryd.ntmps19
    go_wp2
    go_ret
    exact ⟨rfl, Below.refl _ _⟩
end Go.Proofs.YtcfkegfddiglcaaDoor
