/-
  A subscription put in its own place (node.set), by the program. Condition: the list is of one, of the same address, in a row of the call's own.
-/
import Derived.Test.YtoijpjmkjhoiaaaAsBs1
import Derived.Deep.MidRow
namespace Go.Proofs.Ytoijpjmkjhoiaaa
set_option linter.unusedVariables false
set_option linter.unusedSimpArgs false
open Go.RowKit Go.MapKept Go.Shelf
theorem cmp_self : ∀ a : Tx, Lib.compareBytes a a = 0
  | [] => rfl
  | a :: x => by
    have h : ¬ a < a := UInt8.lt_irrefl a
    rw [Lib.compareBytes, if_neg h, if_neg h]
    exact cmp_self x
set_option maxRecDepth 100000 in
set_option maxHeartbeats 4000000 in
theorem setSub1x_any (j : Tx) (p p0 : Bool) (d d0 : Int) (g c base : Nat) (w : World) (hO : w.ownsRow base 46 3 (.slice (some ⟨g, 0, none⟩) 1 c) 1 (suC [(j, p0, d0)])) :
    Calls Try.prog 15 #[.slice (some ⟨g, 0, none⟩) 1 c, .agg #[.string ⟨j.toArray⟩, .bool p, .int .i64 d], .func (.func 16) #[] #[]] w fun e w' => e = .returned (.slice (some ⟨g, 0, none⟩) 1 c) ∧ w'.ownsRow base 46 3 (.slice (some ⟨g, 0, none⟩) 1 c) 1 (suC [(j, p, d)]) ∧ Below base w w' := by
  have hg := hO.lt g rfl
  have c0 := hO.cellAt 0 (by omega)
  have c1 := hO.cellAt 1 (by omega)
  have c2 := hO.cellAt 2 (by omega)
  have hz := hO.frozenAt
  have hOf : Hid (∀ W, Calls Try.prog 16 #[.agg #[.string ⟨j.toArray⟩, .bool p, .int .i64 d]] W fun e w' => e = .returned (.string ⟨j.toArray⟩) ∧ Below W.heap.size W w') := Lib.hid fun W => subOf_any j p d W
  obtain ⟨w2, hw2, hB2, hbf, hbx⟩ : ∃ w2, ((w.alloc (.cells #[.string ⟨j.toArray⟩, .bool p, .int .i64 d] 46)).alloc (.cells #[.func (.func 16) #[] #[]] 51)) = w2 ∧ Below w.heap.size w w2 ∧ w2.heap[w.heap.size + 1]? = some (.cells #[.func (.func 16) #[] #[]] 51 (0, 0)) ∧ w2.heap[w.heap.size]? = some (.cells #[.string ⟨j.toArray⟩, .bool p, .int .i64 d] 46 (0, 0)) := by
    refine ⟨_, rfl, belowA (below1 _ _) _, ?_, obj_alloc (heap_alloc w _).1⟩
    have := bare_nd (w.alloc (.cells #[.string ⟨j.toArray⟩, .bool p, .int .i64 d] 46)) (.cells #[.func (.func 16) #[] #[]] 51)
    rwa [World.size_alloc] at this
  have hcmp : Lib.compareBytes j j = 0 := cmp_self j
  have hBs : Hid (∀ W, Below w2.heap.size w2 W → Calls Try.prog 41 #[.slice (some ⟨g, 0, none⟩) 1 c, .string ⟨j.toArray⟩, .func (.func 42) #[] #[.pointer (some ⟨w.heap.size + 1, 0, none⟩)]] W fun e w' => e = .returned (.tuple #[.int .i64 0, .bool true]) ∧ Below W.heap.size W w') := Lib.hid fun W hW => by
    have hbW := belowT hB2 hW
    refine bs1Sub_any (j, p0, d0) g c _ W ⟨(hbW.cell (p := ⟨g, 0, none⟩) hg.2).trans c0, (hbW.cell (p := ⟨g, 1, none⟩) hg.2).trans c1, (hbW.cell (p := ⟨g, 2, none⟩) hg.2).trans c2⟩ (Nat.lt_of_lt_of_le hg.2 hbW.size) (fun V hV => ?_)
    have h := setSub1_any (j, p0, d0) j (w.heap.size + 1) V ((hV.block _ (Nat.lt_of_lt_of_le (Array.getElem?_eq_some_iff.1 hbf).1 hW.size)).trans ((hW.block _ (Array.getElem?_eq_some_iff.1 hbf).1).trans hbf))
    simp only [hcmp] at h
    exact h
  obtain ⟨bc, -, bl⟩ := obj_cells hbx
  obtain ⟨oc, -, ol⟩ := obj_cells hbf
  have b0 := bc 0
  have b1 := bc 1
  have b2 := bc 2
  have o0 := oc 0
  simp only [List.getElem?_toArray, List.getElem?_cons_zero, List.getElem?_cons_succ] at b0 b1 b2 o0
  have hgb := Lib.hid hg
  replace c0 := Lib.hid c0
  replace c1 := Lib.hid c1
  replace c2 := Lib.hid c2
  replace hz := Lib.hid hz
  replace hB2 := Lib.hid hB2
  replace hO := Lib.hid hO
  clear hbf hbx bc oc hg hcmp
  go_enter Try.func15, Try.ntmps15
  go_upto_if 18 with (first
    | (go_at_call 41; have m0 := hb1; refine (hBs.out _ hb1.out).mono ?_; rintro e w3 ⟨rfl, hb2⟩; have hb3 := Lib.hid (belowT hb1.out hb2); clear hb2)
    | (go_at_call 16; refine (hOf.out _).mono ?_; rintro e w1 ⟨rfl, hb1⟩; replace hb1 := Lib.hid hb1))
  have hbw3 := belowT hB2.out hb3.out
  have x0 := (hb3.out.cell (p := ⟨w.heap.size, 0, none⟩) bl).trans b0
  have x1 := (hb3.out.cell (p := ⟨w.heap.size, 1, none⟩) bl).trans b1
  have x2 := (hb3.out.cell (p := ⟨w.heap.size, 2, none⟩) bl).trans b2
  have xl := Nat.lt_of_lt_of_le bl hb3.out.size
  have gl := Nat.lt_of_lt_of_le hgb.out.2 hbw3.size
  have g0 := (hbw3.cell (p := ⟨g, 0, none⟩) hgb.out.2).trans c0.out
  have g1 := (hbw3.cell (p := ⟨g, 1, none⟩) hgb.out.2).trans c1.out
  have g2 := (hbw3.cell (p := ⟨g, 2, none⟩) hgb.out.2).trans c2.out
  have z0 : ∀ q, w3.frozen? ⟨g, q, none⟩ = false := fun q => (hbw3.frozen (p := ⟨g, q, none⟩) hgb.out.2).trans (hz.out q)
  have hO3 : w3.ownsRow base 46 3 (.slice (some ⟨g, 0, none⟩) 1 c) 1 (suC [(j, p0, d0)]) := by
    refine ⟨hO.out.1, ?_⟩
    rcases hO.out.2 with h2 | ⟨g', cap, cur, h1, h2, h3, h4⟩
    · exact .inl h2
    · exact .inr ⟨g', cap, cur, h1, h2, (hbw3.block g' (Array.getElem?_eq_some_iff.1 h3).1).trans h3, h4⟩
  have hfin : ((((w3.setCell ⟨g, 0, none⟩ (.string ⟨j.toArray⟩)).setCell ⟨g, 1, none⟩ (.bool p)).setCell ⟨g, 2, none⟩ (.int .i64 d))).ownsRow base 46 3 (.slice (some ⟨g, 0, none⟩) 1 c) 1 (suC [(j, p, d)]) := by
    have h := (((hO3.stored 0 (.string ⟨j.toArray⟩)).1.stored 1 (.bool p)).1.stored 2 (.int .i64 d)).1
    simpa [suC] using h
  have hbel : Below base w ((((w3.setCell ⟨g, 0, none⟩ (.string ⟨j.toArray⟩)).setCell ⟨g, 1, none⟩ (.bool p)).setCell ⟨g, 2, none⟩ (.int .i64 d))) := (((hbw3.mono (Nat.le_of_lt (Nat.lt_of_le_of_lt hgb.out.1 hgb.out.2))).setCell hgb.out.1 _).setCell hgb.out.1 _).setCell hgb.out.1 _
  have s1 := (hO3.stored 0 (.string ⟨j.toArray⟩)).1
  have s2 := (s1.stored 1 (.bool p)).1
  have k1 := s1.cellAt 1 (by omega)
  have f1 := s1.frozenAt 1
  have k2 := s2.cellAt 2 (by omega)
  have f2 := s2.frozenAt 2
  simp [suC] at k1 k2
  clear s1 s2
  have y0 := z0 0
  have y1 := z0 1
  have y2 := z0 2
  clear z0
  replace hfin := Lib.hid hfin
  replace hbel := Lib.hid hbel
  replace hO3 := Lib.hid hO3
  clear b0 b1 b2 o0 hbw3
  have hth : w3.there g 0 3 := fun i hi => by
    have h : i = 0 ∨ i = 1 ∨ i = 2 := by omega
    rcases h with rfl | rfl | rfl
    · exact ⟨by rw [g0]; rfl, y0⟩
    · exact ⟨by rw [g1]; rfl, y1⟩
    · exact ⟨by rw [g2]; rfl, y2⟩
  have hinf : (Try.prog.info? 46).map (·.size) = some 3 := by
    obtain ⟨i, h1, -, h2, -⟩ := infoSu
    rw [h1, Option.map_some, h2]
  have hone : (#[.string ⟨j.toArray⟩, .bool p, .int .i64 d] : Array Value).all (·.oneCell') = true := by simp [Value.oneCell']
  replace hth := Lib.hid hth
  replace hinf := Lib.hid hinf
  replace hone := Lib.hid hone
  clear g0 g1 g2 y0 y1 y2 k1 k2 f1 f2
  go_wp2_with (refine wpList_store_mid rfl 46 _ _ rfl g 0 #[.string ⟨j.toArray⟩, .bool p, .int .i64 d] rfl rfl hth.out hinf.out hone.out ?_)
  go_ret
  exact ⟨rfl, hfin.out, hbel.out⟩
end Go.Proofs.Ytoijpjmkjhoiaaa
