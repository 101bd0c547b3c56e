/-
  One attribute of a printed tag is read back (xml.attribute). Conditions: a right name and value, the rest within the reach.
-/
import Derived.Test.YtjpdadibeocpfaaDoorPbC
import Derived.Test.YtjpdadibeocpfaaDoorPrName
import Derived.Test.YtjpdadibeocpfaaDoorPrUne
import Derived.Deep.DeepCutAuto
import Derived.StillTailTactics
import Derived.OwnWalk
namespace Go.Proofs.YtjpdadibeocpfaaDoor
set_option linter.unusedVariables false
set_option linter.unusedSimpArgs false
open Go.RowKit Go.MapKept Go.Proofs
theorem obj_belowP {W w' : World} {b : Nat} {o : Obj} (h : W.heap[b]? = some o) (hb : Below W.heap.size W w') : w'.heap[b]? = some o := (hb.block b (Array.getElem?_eq_some_iff.1 h).1).trans h
theorem space_0 (c : UInt8) (r : List UInt8) (hc : blC c = false) (W : World) (hs : (c :: r).length ≤ 140737488351232) :
    Calls Tryd.prog 51 #[.string ⟨(c :: r).toArray⟩] W fun e w' => e = .returned (.int .i64 0) ∧ Below W.heap.size W w' := by
  refine (space_any (c :: r) W hs).mono ?_
  rintro e w' ⟨rfl, hb⟩
  have h : Lib.trimLeftS (c :: r) [32, 9, 10, 13] = c :: r := by
    unfold Lib.trimLeftS
    rw [List.dropWhile_cons_of_neg]
    intro h
    unfold blC at hc
    rw [decide_eq_false_iff_not] at hc
    simp at h
    exact hc (by omega)
  rw [h]
  exact ⟨ret_int (by omega), hb⟩
theorem pre_one (c : UInt8) (r : List UInt8) (W : World) : Calls Tryd.prog 46 #[.string ⟨(c :: r).toArray⟩, .string ⟨#[c]⟩] W fun e w' => e = .returned (.bool true) ∧ W = w' := by
  refine (Tryd.strings_HasPrefix ⟨(c :: r).toArray⟩ ⟨#[c]⟩ W).mono ?_
  rintro e w' ⟨rfl, h⟩
  exact ⟨ret_bool (by simp [Lib.hasPrefix]), h.symm⟩
theorem xname_at (n : List UInt8) (c : UInt8) (r : List UInt8) (W : World) (hn : nameP n = true) (hc : nameC c = false) (hs : (n ++ c :: r).length ≤ 140737488351232) :
    Calls Tryd.prog 53 #[.string ⟨(n ++ c :: r).toArray⟩] W fun e w' => e = .returned (.tuple #[.string ⟨n.toArray⟩, .string ⟨(c :: r).toArray⟩]) ∧ ∃ k, w' = W.drewN k := by
  have hh : headN nameC (n ++ c :: r) = n.length := head_app (name_all hn) hc
  have := xname_any (n ++ c :: r) W hs (by rw [hh, List.take_left]; exact hn)
  rw [hh, List.take_left, List.drop_left] at this
  exact this
theorem ext_all (s : List UInt8) : (ByteArray.mk s.toArray).extract 0 s.length = ⟨s.toArray⟩ := by rw [ext0, List.take_length]
theorem ext_tl (c : UInt8) (s : List UInt8) : (ByteArray.mk (c :: s).toArray).extract 1 (c :: s).length = ⟨s.toArray⟩ := by rw [extE]; rfl
theorem ext_hd (c : UInt8) (s : List UInt8) : (ByteArray.mk (c :: s).toArray).extract 0 1 = ⟨#[c]⟩ := by rw [ext0]; rfl
set_option maxRecDepth 100000 in
set_option maxHeartbeats 8000000 in
theorem xattr_any (n v r : List UInt8) (w : World) (hn : nameP n = true) (hf : fitsP v = true) (hr : r.length ≤ 100000) :
    Calls Tryd.prog 68 #[.string ⟨(n ++ 61 :: 39 :: (escL v ++ 39 :: r)).toArray⟩] w fun e w' => e = .returned (.tuple #[.agg #[.string ⟨n.toArray⟩, .string ⟨v.toArray⟩], .string ⟨r.toArray⟩]) ∧ Below w.heap.size w w' := by
  have hev := esc_len_le v hf
  have hnl := nameP_len hn
  have cUne := Lib.hid (fun W => unescape_any v W (by omega))
  have hno : Hid ((39 : UInt8) ∉ escL v) := Lib.hid (fun h => (escL_no v 39 h).2.2.1 rfl)
  have hcut := Lib.hid (ycut_at (r := r) hno.out)
  generalize hS4 : escL v ++ 39 :: r = S4 at hcut ⊢
  have l4 : S4.length ≤ 110000 := by rw [← hS4, List.length_append, List.length_cons]; omega
  have cCut := Lib.hid (fun W => xcut_any S4 39 W (by omega))
  have cSp3 := Lib.hid (fun W => space_0 39 S4 (by decide) W (by simp only [List.length_cons]; omega))
  have cPr3 := Lib.hid (pre_one 39 S4)
  have x3 := ext_all (39 :: S4)
  have y3 := ext_tl 39 S4
  have z3 := ext_hd 39 S4
  have l3 : (39 :: S4).length = S4.length + 1 := rfl
  generalize hS3 : 39 :: S4 = S3 at cSp3 cPr3 x3 y3 z3 l3 ⊢
  have cSp2 := Lib.hid (fun W => space_0 61 S3 (by decide) W (by simp only [List.length_cons]; omega))
  have cPr2 := Lib.hid (pre_one 61 S3)
  have cNm := Lib.hid (fun W => xname_at n 61 S3 W hn (by decide) (by simp only [List.length_append, List.length_cons]; omega))
  have x2 := ext_all (61 :: S3)
  have y2 := ext_tl 61 S3
  have l2 : (61 :: S3).length = S3.length + 1 := rfl
  generalize hS2 : 61 :: S3 = S2 at cSp2 cPr2 cNm x2 y2 l2 ⊢
  generalize hS1 : n ++ S2 = S1 at cNm ⊢
  rw [hcut.out] at cCut
  replace hS1 := Lib.hid hS1
  replace hS2 := Lib.hid hS2
  replace hS3 := Lib.hid hS3
  replace hS4 := Lib.hid hS4
  have p3 : (1 : Int) ≤ (S3.length : Int) := by omega
  have p2 : (1 : Int) ≤ (S2.length : Int) := by omega
  have p20 : (0 : Int) ≤ (S2.length : Int) := by omega
  have p30 : (0 : Int) ≤ (S3.length : Int) := by omega
  have b3 : S3.length ≤ 200000 := by omega
  have b2 : S2.length ≤ 200000 := by omega
  replace l2 := Lib.hid l2
  replace l3 := Lib.hid l3
  have hobj0 : (w.alloc (.cells #[.string ⟨#[]⟩, .string ⟨#[]⟩] 39)).heap[w.heap.size]? = some (.cells #[.string ⟨#[]⟩, .string ⟨#[]⟩] 39) := (heap_alloc _ _).1
  go_enter Tryd.func68, Tryd.ntmps68
  go_upto_region 7 with (first
    | (go_at_call 53; refine (cNm.out _).mono ?_; rintro e w1 ⟨rfl, k1, rfl⟩)
    | (have mA := mB; clear mA; go_at_call 51; refine (cSp3.out _).mono ?_; rintro e w4 ⟨rfl, hb4⟩; replace hb4 := Lib.hid hb4; have mC := Lib.hid True.intro)
    | (go_at_call 51; refine (cSp2.out _).mono ?_; rintro e w2 ⟨rfl, hb2⟩; replace hb2 := Lib.hid hb2; have mB := Lib.hid True.intro)
    | (have mA := mC; clear mA; go_at_call 46; refine (cPr3.out _).mono ?_; rintro e w5 ⟨rfl, rfl⟩)
    | (go_at_call 46; refine (cPr2.out _).mono ?_; rintro e w3 ⟨rfl, rfl⟩)
    | (go_at_call 37; refine (must_ok 6 _).mono ?_; rintro e w6 ⟨rfl, rfl⟩))
  have hobj1 := obj_set (i := 0) (show ((w.alloc (.cells #[.string ⟨#[]⟩, .string ⟨#[]⟩] 39)).drewN k1).heap[w.heap.size]? = some _ from hobj0) (.string ⟨n.toArray⟩)
  have hobj4 := Lib.hid (obj_belowP (obj_belowP hobj1 hb2.out) hb4.out)
  have hB1 : Below w.heap.size w (((w.alloc (.cells #[.string ⟨#[]⟩, .string ⟨#[]⟩] 39)).drewN k1).setCell ⟨w.heap.size, 0, none⟩ (.string ⟨n.toArray⟩)) := (belowN (below1 w _) k1).setCell (p := ⟨w.heap.size, 0, none⟩) (Nat.le_refl _) _
  have hB4 := Lib.hid (belowT (belowT hB1 hb2.out) hb4.out)
  clear hobj1 hB1 hb2 hb4 cNm cSp2 cSp3 cPr2 cPr3
  go_region_law (go_simp; go_at_call 43; refine (cCut.out _).mono ?_; rintro e w5 ⟨rfl, k5, rfl⟩)
  have hobj5 : (w4.drewN (1 + k5)).heap[w.heap.size]? = some (.cells #[.string ⟨n.toArray⟩, .string ⟨#[]⟩] 39) := hobj4.out
  have hB5 := belowN hB4.out (1 + k5)
  generalize w4.drewN (1 + k5) = w5 at hobj5 hB5 ⊢
  replace hB5 := Lib.hid hB5
  clear cCut hobj4 hB4
  go_wp2_with (first
    | (go_at_call 37; refine (must_ok 6 _).mono ?_; rintro e w6 ⟨rfl, rfl⟩)
    | (go_at_call 48; refine (cUne.out _).mono ?_; rintro e w6 ⟨rfl, hb6⟩
       have hobj6 := obj_belowP hobj5 hb6
       have hB6 := Lib.hid (belowT hB5.out hb6)
       obtain ⟨xc6, xf6, xl6⟩ := obj_cells hobj6
       have c60 : w6.cell? ⟨w.heap.size, 0, none⟩ = some (.string ⟨n.toArray⟩) := (xc6 0).trans rfl
       have c61 : w6.cell? ⟨w.heap.size, 1, none⟩ = some (.string ⟨#[]⟩) := (xc6 1).trans rfl
       have f60 := xf6 0
       have f61 := xf6 1
       clear xc6 xf6 hobj5 hb6
       replace hobj6 := Lib.hid hobj6))
  refine bodyPost_ret (v := .tuple #[.agg #[.string ⟨n.toArray⟩, .string ⟨v.toArray⟩], .string ⟨r.toArray⟩]) (by simp [results, Tryd.results68, go_sem, c60, c61]) rfl ⟨rfl, ?_⟩
  exact ((hB6.out.setCell (p := ⟨w.heap.size, 1, none⟩) (Nat.le_refl _) _).setCell (p := ⟨w.heap.size, 0, none⟩) (Nat.le_refl _) _).setCell (p := ⟨w.heap.size, 1, none⟩) (Nat.le_refl _) _
end Go.Proofs.YtjpdadibeocpfaaDoor
