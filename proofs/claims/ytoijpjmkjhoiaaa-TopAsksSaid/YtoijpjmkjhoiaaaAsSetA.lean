/-
  An affiliation put behind one (node.set), by the program. Condition: the list is of one whose address is less, in a row of the call's own.
-/
import Derived.Test.YtoijpjmkjhoiaaaAsSet
namespace Go.Proofs.Ytoijpjmkjhoiaaa
set_option linter.unusedVariables false
set_option linter.unusedSimpArgs false
open Go.RowKit Go.MapKept Go.Shelf
set_option maxRecDepth 100000 in
set_option maxHeartbeats 4000000 in
theorem bs1Aff_any (x : Tx × Nat) (t : Tx) (g c : Nat) (cb : Array Value) (w : World) (hx : w.cell? ⟨g, 0, none⟩ = some (.string ⟨x.1.toArray⟩) ∧ w.cell? ⟨g, 1, none⟩ = some (.int .u8 x.2)) (hg : g < w.heap.size)
    (hC : ∀ W, Below w.heap.size w W → Calls Try.prog 52 (#[.agg #[.string ⟨x.1.toArray⟩, .int .u8 x.2], .string ⟨t.toArray⟩] ++ cb) W fun r w' => r = .returned (.int .i64 (-1)) ∧ Below W.heap.size W w') :
    Calls Try.prog 51 #[.slice (some ⟨g, 0, none⟩) 1 c, .string ⟨t.toArray⟩, .func (.func 52) #[] cb] w fun e w' => e = .returned (.tuple #[.int .i64 1, .bool false]) ∧ Below w.heap.size w w' := by
  have eg := enters_of (P := Try.prog) Try.func52 (by kernel_rfl) rfl
  obtain ⟨j, p⟩ := x
  simp only at hx hC ⊢
  obtain ⟨d0, d1⟩ := hx
  replace hC := Lib.hid hC
  go_enter Try.func51, Try.ntmps51
  go_wp2
  go_loopw [9, 10] (fun s9 s10 wr => s10 = .int .i64 1 ∧ (∃ q : Nat, q ≤ 1 ∧ s9 = .int .i64 q) ∧ Hid (Below w.heap.size w wr)) (fun s9 _ _ => 1 - (intOf s9).toNat)
  case atStart => exact ⟨rfl, ⟨0, by omega, rfl⟩, Lib.hid (Below.refl _ _)⟩
  case round =>
    obtain ⟨rfl, ⟨q, hq, rfl⟩, hB⟩ := hrel
    have e0 := (hB.out.cell (p := ⟨g, 0, none⟩) hg).trans d0
    have e1 := (hB.out.cell (p := ⟨g, 1, none⟩) hg).trans d1
    have hgw := Nat.lt_of_lt_of_le hg hB.out.size
    have hCw := Lib.hid (hC.out _ hB.out)
    clear d0 d1
    obtain rfl | rfl : q = 0 ∨ q = 1 := by omega
    · have ez : ((0 : Nat) : Int) = 0 := rfl
      rw [ez]
      go_wp2_with (go_at_call 52; refine hCw.out.mono ?_; rintro e w1 ⟨rfl, hb1⟩; replace hb1 := Lib.hid hb1)
      go_roundw
      case rel => exact ⟨rfl, ⟨1, by omega, rfl⟩, Lib.hid (belowT hB.out hb1.out)⟩
      case measure => simp [intOf]
    · have ez : ((1 : Nat) : Int) = 1 := rfl
      rw [ez]
      go_wp2_with fail
      go_ret2
      exact ⟨rfl, hB.out⟩
set_option maxRecDepth 100000 in
set_option maxHeartbeats 4000000 in
theorem setAff2_any (aj sj : Tx) (ar sr : Nat) (g c base : Nat) (w : World) (hcmp : Lib.compareBytes aj sj = -1) (hO : w.ownsRow base 25 2 (.slice (some ⟨g, 0, none⟩) 1 c) 1 (afC [(aj, ar)])) :
    Calls Try.prog 22 #[.slice (some ⟨g, 0, none⟩) 1 c, .agg #[.string ⟨sj.toArray⟩, .int .u8 sr], .func (.func 21) #[] #[]] w fun e w' => ∃ v', e = .returned v' ∧ w'.ownsRow base 25 2 v' 2 (afC [(aj, ar), (sj, sr)]) ∧ Below base w w' ∧ w.grownBy w' (some g) := by
  have hg := hO.lt g rfl
  have c0 := hO.cellAt 0 (by omega)
  have c1 := hO.cellAt 1 (by omega)
  have hOf : Hid (∀ W, Calls Try.prog 21 #[.agg #[.string ⟨sj.toArray⟩, .int .u8 sr]] W fun e w' => e = .returned (.string ⟨sj.toArray⟩) ∧ Below W.heap.size W w') := Lib.hid fun W => affOf_any sj sr W
  obtain ⟨w2, hw2, hB2, hbf, hbx⟩ : ∃ w2, ((w.alloc (.cells #[.string ⟨sj.toArray⟩, .int .u8 sr] 25)).alloc (.cells #[.func (.func 21) #[] #[]] 59)) = w2 ∧ Below w.heap.size w w2 ∧ w2.heap[w.heap.size + 1]? = some (.cells #[.func (.func 21) #[] #[]] 59 (0, 0)) ∧ w2.heap[w.heap.size]? = some (.cells #[.string ⟨sj.toArray⟩, .int .u8 sr] 25 (0, 0)) := by
    refine ⟨_, rfl, belowA (below1 _ _) _, ?_, obj_alloc (heap_alloc w _).1⟩
    have := bare_nd (w.alloc (.cells #[.string ⟨sj.toArray⟩, .int .u8 sr] 25)) (.cells #[.func (.func 21) #[] #[]] 59)
    rwa [World.size_alloc] at this
  have hOk : ∀ W, Below w.heap.size w W → W.ownsRow base 25 2 (.slice (some ⟨g, 0, none⟩) 1 c) 1 (afC [(aj, ar)]) := fun W hW => by
    refine ⟨hO.1, ?_⟩
    rcases hO.2 with h2 | ⟨g', cap, cur, h1, h2, h3, h4⟩
    · exact .inl h2
    · exact .inr ⟨g', cap, cur, h1, h2, (hW.block g' (Array.getElem?_eq_some_iff.1 h3).1).trans h3, h4⟩
  have hBs : Hid (∀ W, Below w2.heap.size w2 W → Calls Try.prog 51 #[.slice (some ⟨g, 0, none⟩) 1 c, .string ⟨sj.toArray⟩, .func (.func 52) #[] #[.pointer (some ⟨w.heap.size + 1, 0, none⟩)]] W fun e w' => e = .returned (.tuple #[.int .i64 1, .bool false]) ∧ Below W.heap.size W w') := Lib.hid fun W hW => by
    have hbW := belowT hB2 hW
    refine bs1Aff_any (aj, ar) sj g c _ W ⟨(hbW.cell (p := ⟨g, 0, none⟩) hg.2).trans c0, (hbW.cell (p := ⟨g, 1, none⟩) hg.2).trans c1⟩ (Nat.lt_of_lt_of_le hg.2 hbW.size) (fun V hV => ?_)
    have h := setAff1_any (aj, ar) sj (w.heap.size + 1) V ((hV.block _ (Nat.lt_of_lt_of_le (Array.getElem?_eq_some_iff.1 hbf).1 hW.size)).trans ((hW.block _ (Array.getElem?_eq_some_iff.1 hbf).1).trans hbf))
    simp only [hcmp] at h
    exact h
  have hbase : base ≤ w.heap.size := Nat.le_of_lt (Nat.lt_of_le_of_lt hg.1 hg.2)
  have hIn : Hid (∀ W, Below w.heap.size w W → Calls Try.prog 53 #[.slice (some ⟨g, 0, none⟩) 1 c, .int .i64 1, .slice (some ⟨W.heap.size, 0, none⟩) 1 1] (W.alloc (.cells #[.string ⟨sj.toArray⟩, .int .u8 sr] 25)) fun e w' => ∃ v', e = .returned v' ∧ w'.ownsRow base 25 2 v' 2 (afC [(aj, ar), (sj, sr)]) ∧ Below base W w' ∧ W.grownBy w' (some g)) := Lib.hid fun W hW => by
    refine (insAff_any g c base W.heap.size (aj, ar) (sj, sr) (W.alloc (.cells #[.string ⟨sj.toArray⟩, .int .u8 sr] 25)) ((hOk W hW).alloc _) (by rw [World.size_alloc]; exact Nat.le_trans hbase (Nat.le_trans hW.size (by omega))) (bare_nd W _)).mono ?_
    rintro e w' ⟨v', rfl, h1, h2, h3⟩
    exact ⟨v', rfl, h1, ((Below.refl base W).alloc (Nat.le_trans hbase hW.size) _).trans h2, grown_pre (below1 W _) h3⟩
  obtain ⟨bc, -, bl⟩ := obj_cells hbx
  obtain ⟨oc, -, ol⟩ := obj_cells hbf
  have b0 := bc 0
  have b1 := bc 1
  have o0 := oc 0
  simp only [List.getElem?_toArray, List.getElem?_cons_zero, List.getElem?_cons_succ] at b0 b1 o0
  replace hB2 := Lib.hid hB2
  clear hbf hbx bc oc hcmp c0 c1 hOk
  replace hO := Lib.hid hO
  replace hg := Lib.hid hg
  go_enter Try.func22, Try.ntmps22
  go_wp2_with (first
    | (go_at_call 53; have m0 := hb3; refine (hIn.out _ hb3.out).mono ?_; rintro e w4 ⟨v4, rfl, hO4, hb4, hG4⟩; replace hO4 := Lib.hid hO4; replace hb4 := Lib.hid hb4; replace hG4 := Lib.hid hG4)
    | (go_at_call 51; have m0 := hb1; refine (hBs.out _ hb1.out).mono ?_; rintro e w3 ⟨rfl, hbb⟩; have x0 := ((belowT hb1.out hbb).cell (p := ⟨w.heap.size, 0, none⟩) bl).trans b0; have x1 := ((belowT hb1.out hbb).cell (p := ⟨w.heap.size, 1, none⟩) bl).trans b1; have xl := Nat.lt_of_lt_of_le bl (belowT hb1.out hbb).size; have hb3 := Lib.hid (belowT hB2.out (belowT hb1.out hbb)); clear hbb)
    | (go_at_call 21; refine (hOf.out _).mono ?_; rintro e w1 ⟨rfl, hb1⟩; replace hb1 := Lib.hid hb1))
  go_ret
  exact ⟨_, rfl, hO4.out, (hb3.out.mono (Nat.le_of_lt (Nat.lt_of_le_of_lt hg.out.1 hg.out.2))).trans hb4.out, grown_pre hb3.out hG4.out⟩
end Go.Proofs.Ytoijpjmkjhoiaaa
