/-
  What failed (Failed), by the program and by the reference. No condition.
-/
import Derived.Test.YtcfkegfddiglcaaDoorStAns
import Derived.Test.YtcfkegfddiglcaaDoorWrRefSame
namespace Go.Proofs.YtcfkegfddiglcaaDoor
set_option linter.unusedVariables false
set_option linter.unusedSimpArgs false
open Go.RowKit Go.MapKept Go.Shelf
def failV (c : Int) : Value := .tuple #[.int .i64 c, .bool (knownB c)]
theorem failZ_ty {z : Sz} (h : ¬ z.ty = errL) : failZ z = 0 := by
  unfold failZ
  split
  · rw [if_neg (fun e => h e.1)]
  · rfl
theorem failZ_len {z : Sz} (h : z.pl.length < 2) : failZ z = 0 := by
  unfold failZ
  split
  · rename_i e; rw [e] at h; simp at h; omega
  · rfl
theorem failZ_two {z : Sz} (h : 2 ≤ z.pl.length) (ht : z.ty = errL) : failZ z = if (z.pl[0]'(by omega)).k = 1 ∧ (z.pl[0]'(by omega)).n = errL ∧ (z.pl[1]'(by omega)).k = 1 then condL (z.pl[1]'(by omega)).n else 0 := by
  obtain ⟨k, ty, fr, tt, id, pl⟩ := z
  match pl, h with
  | a :: b :: r, _ => simp [failZ, show ty = errL from ht]
set_option maxHeartbeats 2000000 in
theorem failed_any (z : Sz) (sv : Value) (w : World) (hT : TkS w sv z.pl) :
    Calls Tryd.prog 17 #[szV z sv] w fun e w' => e = .returned (failV (failZ z)) ∧ Below w.heap.size w w' := by
  by_cases h1 : z.ty = errL
  · by_cases h2 : 2 ≤ z.pl.length
    · have hz := failZ_two h2 h1
      obtain ⟨p, c, rfl, hc, hm, hcell⟩ := hT
      obtain ⟨b, o, rfl, hb, hcc⟩ := hcell (by omega)
      obtain ⟨u1, d0, d1, d2, d3, hat1⟩ := hcc 0 (by omega)
      obtain ⟨u2, e0, e1, e2, e3, hat2⟩ := hcc 1 (by omega)
      obtain ⟨ap1, ac1, hu1⟩ : ∃ a c, u1 = .slice a (z.pl[0]'(by omega)).as.length c := by obtain ⟨a, c, h, -⟩ := hat1; exact ⟨a, c, h⟩
      obtain ⟨ap2, ac2, hu2⟩ : ∃ a c, u2 = .slice a (z.pl[1]'(by omega)).as.length c := by obtain ⟨a, c, h, -⟩ := hat2; exact ⟨a, c, h⟩
      subst hu1 hu2
      rw [Nat.zero_mul, Nat.add_zero] at d0 d1 d2 d3
      rw [Nat.one_mul] at e0 e1 e2 e3
      simp only [Nat.add_assoc, Nat.reduceAdd] at e1 e2 e3
      generalize z.pl[0] = x1 at *
      generalize z.pl[1] = x2 at *
      obtain ⟨k1, n1, as1, t1⟩ := x1
      obtain ⟨k2, n2, as2, t2⟩ := x2
      simp only at d0 d1 d2 d3 e0 e1 e2 e3 hz
      clear hat1 hat2 hcell hcc
      have h2' : ¬ (z.pl.length : Int) < 2 := by omega
      have h2n : 0 < z.pl.length := by omega
      have h2m : 1 < z.pl.length := by omega
      have h9 : (z.pl.length : Int) ≤ 9223372036854775807 := by unfold maxLen at hm; omega
      replace hz := Lib.hid hz
      have ht : (z.ty == [101, 114, 114, 111, 114]) = true := by rw [beq_iff_eq]; exact h1
      clear h1
      unfold szV
      obtain ⟨k, ty, fr, tt, id, pl⟩ := z
      simp only at h2 h2' h2n h2m h9 ht ⊢
      generalize pl.length = n at *
      go_enter Tryd.func17, Tryd.ntmps17
      go_upto_region 3 with (fail)
      have h1n : (1 : Int) < (n : Int) := by omega
      have hBA := below1 w (.cells #[.int .u8 k, .string ⟨ty.toArray⟩, .string ⟨fr.toArray⟩, .string ⟨tt.toArray⟩, .string ⟨id.toArray⟩, .slice (some ⟨b, o, none⟩) n c] 25)
      obtain ⟨ha, -⟩ := bat hBA b hb
      have hbw : b < (w.alloc (.cells #[.int .u8 k, .string ⟨ty.toArray⟩, .string ⟨fr.toArray⟩, .string ⟨tt.toArray⟩, .string ⟨id.toArray⟩, .slice (some ⟨b, o, none⟩) n c] 25)).heap.size := Nat.lt_of_lt_of_le hb hBA.size
      have hww : w.heap.size < (w.alloc (.cells #[.int .u8 k, .string ⟨ty.toArray⟩, .string ⟨fr.toArray⟩, .string ⟨tt.toArray⟩, .string ⟨id.toArray⟩, .slice (some ⟨b, o, none⟩) n c] 25)).heap.size := by simp
      have c5 : (w.alloc (.cells #[.int .u8 k, .string ⟨ty.toArray⟩, .string ⟨fr.toArray⟩, .string ⟨tt.toArray⟩, .string ⟨id.toArray⟩, .slice (some ⟨b, o, none⟩) n c] 25)).cell? ⟨w.heap.size, 5, none⟩ = some (.slice (some ⟨b, o, none⟩) n c) := by simp
      rw [← ha] at d0 d1 d2 d3 e0 e1 e2 e3
      clear ha
      generalize w.alloc (.cells #[.int .u8 k, .string ⟨ty.toArray⟩, .string ⟨fr.toArray⟩, .string ⟨tt.toArray⟩, .string ⟨id.toArray⟩, .slice (some ⟨b, o, none⟩) n c] 25) = wA at *
      replace hBA := Lib.hid hBA
      go_cut [4, 5] (fun v6 v7 W => ∃ g h : Nat, v6 = .pointer (some ⟨g, 0, none⟩) ∧ v7 = .pointer (some ⟨h, 0, none⟩) ∧ Boxes W g h k1 k2 n1 n2 t1 t2 (.slice ap1 as1.length ac1) (.slice ap2 as2.length ac2) ∧ Below w.heap.size w W)
      case first =>
        go_region_held3 (fun W => W.cell? ⟨w.heap.size, 5, none⟩ = some (.slice (some ⟨b, o, none⟩) n c) ∧ W.cell? ⟨b, o, none⟩ = some (.int .u8 k1) ∧ W.cell? ⟨b, o + 1, none⟩ = some (.string ⟨n1.toArray⟩) ∧ W.cell? ⟨b, o + 2, none⟩ = some (.slice ap1 as1.length ac1) ∧ W.cell? ⟨b, o + 3, none⟩ = some (.string ⟨t1.toArray⟩) ∧
          W.cell? ⟨b, o + 4, none⟩ = some (.int .u8 k2) ∧ W.cell? ⟨b, o + 5, none⟩ = some (.string ⟨n2.toArray⟩) ∧ W.cell? ⟨b, o + 6, none⟩ = some (.slice ap2 as2.length ac2) ∧ W.cell? ⟨b, o + 7, none⟩ = some (.string ⟨t2.toArray⟩)) (first | assumption | go_keep) (fail)
        all_goals go_wp2_with fail
        all_goals go_meet
        all_goals exact ⟨_, _, rfl, rfl, ⟨by simp [go_sem], by simp [go_sem], by simp [go_sem], by simp [go_sem], by simp [go_sem], by simp [go_sem], by simp [go_sem], by simp [go_sem]⟩, (belowA (belowA hBA.out _) _).drew⟩
      case rest =>
        obtain ⟨g, h, rfl, rfl, ⟨z0, z1, z2, z3, y0, y1, y2, y3⟩, BX⟩ := hcut
        replace BX := Lib.hid BX
        clear d0 d1 d2 d3 e0 e1 e2 e3
        by_cases hk1 : k1 = 1
        · subst hk1
          by_cases hn : n1 = errL
          · have hn' : (n1 == [101, 114, 114, 111, 114]) = true := by rw [beq_iff_eq]; exact hn
            by_cases hk2 : k2 = 1
            · rw [if_pos ⟨rfl, hn, hk2⟩] at hz
              subst hk2
              clear hn
              go_wp2_with (go_at_call 33; refine (condParse_any _ _).mono ?_; rintro e w1 ⟨rfl, hb1⟩; unfold parseC; replace hb1 := Lib.hid hb1)
              go_ret2
              exact ⟨by rw [hz.out]; rfl, belowT BX.out hb1.out⟩
            · rw [if_neg (fun h => hk2 h.2.2)] at hz
              have hk2' : (k2 == 1) = false := by rw [beq_eq_false_iff_ne]; exact hk2
              clear hn
              go_wp2
              go_ret2
              exact ⟨by rw [hz.out]; rfl, BX.out⟩
          · rw [if_neg (fun h => hn h.2.1)] at hz
            have hn' : (n1 == [101, 114, 114, 111, 114]) = false := by rw [beq_eq_false_iff_ne]; exact hn
            have hn2 : ¬ n1 = [101, 114, 114, 111, 114] := hn
            clear hn
            go_wp2
            all_goals go_ret2
            all_goals exact ⟨by rw [hz.out]; rfl, BX.out⟩
        · rw [if_neg (fun h => hk1 h.1)] at hz
          have hk1' : (k1 == 1) = false := by rw [beq_eq_false_iff_ne]; exact hk1
          go_wp2
          all_goals go_ret2
          all_goals exact ⟨by rw [hz.out]; rfl, BX.out⟩
    · have hz := Lib.hid (failZ_len (z := z) (by omega))
      have h2' : (z.pl.length : Int) < 2 := by omega
      obtain ⟨p, c, rfl, hc, hm, -⟩ := hT
      have h9 : (z.pl.length : Int) ≤ 9223372036854775807 := by unfold maxLen at hm; omega
      have ht : (z.ty == [101, 114, 114, 111, 114]) = true := by rw [beq_iff_eq]; exact h1
      clear h1
      unfold szV
      obtain ⟨k, ty, fr, tt, id, pl⟩ := z
      simp only at h2 h2' h9 ht ⊢
      go_enter Tryd.func17, Tryd.ntmps17
      go_wp2
      go_ret2
      exact ⟨by rw [hz.out]; rfl, below1 _ _⟩
  · have hz := Lib.hid (failZ_ty h1)
    obtain ⟨p, c, rfl, -⟩ := hT
    have ht : (z.ty == [101, 114, 114, 111, 114]) = false := by rw [beq_eq_false_iff_ne]; exact h1
    have ht' : ¬ z.ty = [101, 114, 114, 111, 114] := h1
    clear h1
    unfold szV
    obtain ⟨k, ty, fr, tt, id, pl⟩ := z
    simp only at ht ht' ⊢
    go_enter Tryd.func17, Tryd.ntmps17
    go_wp2
    go_ret2
    exact ⟨by rw [hz.out]; rfl, below1 _ _⟩
end Go.Proofs.YtcfkegfddiglcaaDoor
