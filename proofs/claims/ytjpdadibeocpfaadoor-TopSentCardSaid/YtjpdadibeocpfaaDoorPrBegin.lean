/-
  A start tag is read (xml.begin). Conditions: the parser lies at B, the tokens' variable at O; a right name, right attributes.
-/
import Derived.Test.YtjpdadibeocpfaaDoorPrMa
namespace Go.Proofs.YtjpdadibeocpfaaDoor
set_option linter.unusedVariables false
set_option linter.unusedSimpArgs false
open Go.RowKit Go.MapKept Go.Proofs
variable {K : Nat → Prop}
theorem atsL_drop (al : Ats) (j : Nat) (hj : j < al.length) : atsL (al.drop j) = 32 :: ((al[j]'hj).1 ++ 61 :: 39 :: (escL (al[j]'hj).2 ++ 39 :: atsL (al.drop (j + 1)))) := by
  rw [List.drop_eq_getElem_cons hj]
  unfold atsL
  rw [List.flatMap_cons]
  simp [atP]
theorem OutAt.rows2 {n0 O : Nat} {w w' : World} {l : List Tk} (h : OutAt n0 O w l) (hc : w'.cell? ⟨O, 0, none⟩ = w.cell? ⟨O, 0, none⟩) : ∀ v, w'.cell? ⟨O, 0, none⟩ = some v → ∀ r, v.ownBlock = some r → r < w.heap.size := by
  obtain ⟨h1, v, h2, h3⟩ := h
  intro v' hv r hr
  have e := (hc.symm.trans hv).symm.trans (((obj_cells h2).1 0).trans rfl)
  obtain rfl : v' = v := by simpa using e
  exact (tkO_row h3 r hr).2
/-- a copy of the open names -/
theorem clone_op (n0 : Nat) (ov : Value) (op : List (List UInt8)) (W : World) (h : W.ownsRow n0 9 1 ov op.length (nameCells op)) (hs : op.length ≤ 8) :
    Calls Tryd.prog 71 #[ov] W fun e w' => ∃ v', e = .returned v' ∧ w'.ownsRow W.heap.size 9 1 v' op.length (nameCells op) ∧ Below W.heap.size W w' := by
  rcases h.2 with ⟨rfl, h0⟩ | ⟨g, cap, cur, rfl, -, -, -, -, -, -⟩
  · obtain rfl := List.length_eq_zero_iff.1 h0
    refine (Tryd.slices_Clone_string_nil 0 0 W).mono ?_
    rintro e w' ⟨rfl, rfl⟩
    exact ⟨_, rfl, World.ownsRow_nil _ _ _ _, Below.refl _ _⟩
  · have hc : ∀ j, j < (op.map fun n => ByteArray.mk n.toArray).length → W.cell? ⟨g, 0 + j, none⟩ = some (.string ((op.map fun n => ByteArray.mk n.toArray).getD j ByteArray.empty)) := fun j hj => by
      have hj' : j < op.length := by simpa using hj
      rw [Nat.zero_add, name_cell h j hj']
      simp [List.getD, hj']
    refine (Tryd.slices_Clone_string g 0 op.length cap (op.map fun n => ByteArray.mk n.toArray) W (by simp) (by omega) hc).mono ?_
    rintro e w' ⟨v', rfl, ho, -, hb⟩
    refine ⟨v', rfl, ?_, hb⟩
    rw [List.take_of_length_le (by simp)] at ho
    simpa [nameCells, Function.comp_def] using ho
set_option maxRecDepth 100000 in
set_option maxHeartbeats 8000000 in
theorem xbegin_any (emp : Bool) (I : List UInt8) (n0 n1 B O : Nat) (n : List UInt8) (al : Ats) (S : Ps) (l : List Tk) (w : World) (hP : PsAt K n0 B w S) (hO : OutAt n1 O w l) (hne : O ≠ B) (h0 : n1 ≤ w.heap.size) (h01 : n0 ≤ n1) (hn : nameP n = true) (ha : attrsP [] al = true) (h8 : S.op.length < 8) (hrt : S.op ≠ [] ∨ S.rt = false) (hl : l.length ≤ 900)
    (hSf : ∀ W, Calls Tryd.prog 67 #[.string ⟨I.toArray⟩, .string ⟨#[47]⟩] W fun e w' => e = .returned (.tuple #[.string ⟨(n ++ atsL al).toArray⟩, .bool emp]) ∧ W = w') :
    Calls Tryd.prog 54 #[.pointer (some ⟨B, 0, none⟩), .string ⟨I.toArray⟩, .func (.func 18) #[] #[.pointer (some ⟨O, 0, none⟩)]] w fun e w' => e = .returned (.tuple #[]) ∧ PsAt K n0 B w' ⟨S.w, S.q, if emp then S.op else S.op ++ [n], true⟩ ∧ OutAt n1 O w' (if emp then l ++ [⟨1, n, al, []⟩] ++ [⟨2, n, [], []⟩] else l ++ [⟨1, n, al, []⟩]) ∧ Step2 n1 B O w w' := by
  have hea := attrs_each [] al ha
  have ha8 := xattrs_len ha
  have hal := atsL_len hea
  have hnl := nameP_len hn
  have cSf := Lib.hid hSf
  clear hSf
  have cNm := Lib.hid (fun W => xname_ats n al W hn (by rw [List.length_append]; omega))
  generalize hI : n ++ atsL al = I0 at cSf cNm
  replace hI := Lib.hid hI
  have hapt := Lib.hid (fun i (hi : i < al.length) => (xattrs_apart [] al ha i hi).2)
  have hea' := Lib.hid hea
  replace hP := Lib.hid hP
  replace hO := Lib.hid hO
  clear hea
  go_enter Tryd.func54, Tryd.ntmps54
  go_wp2_with (first
    | (go_at_call 67; refine (cSf.out _).mono ?_; rintro e w1 ⟨rfl, rfl⟩)
    | (go_at_call 53; refine (cNm.out _).mono ?_; rintro e w1 ⟨rfl, k1, rfl⟩))
  go_loopw [8, 9] (fun s8 s9 wr => ∃ j : Nat, j ≤ al.length ∧ s8 = .string ⟨(atsL (al.drop j)).toArray⟩ ∧ Hid (wr.ownsRow w.heap.size 39 2 s9 j (atCells (al.take j))) ∧ Hid (Below w.heap.size w wr)) (fun s8 _ _ => strLen s8)
  case atStart => exact ⟨0, Nat.zero_le _, rfl, Lib.hid (World.ownsRow_nil _ _ _ _), Lib.hid (belowN (Below.refl _ _) k1)⟩
  case round =>
    obtain ⟨j, hj, rfl, hOw, hB⟩ := hrel
    by_cases hlt : j < al.length
    · obtain ⟨hnp, hfv⟩ := hea'.out (al[j]'hlt) (List.getElem_mem hlt)
      have hd := atsL_drop al j hlt
      have htk := List.take_succ_eq_append_getElem hlt
      have hRl : (atsL (al.drop (j + 1))).length ≤ 100000 := by
        have := atsL_len (al := al.drop (j + 1)) fun q hq => hea'.out q (List.mem_of_mem_drop hq)
        rw [List.length_drop] at this
        omega
      rw [hd]
      replace hd := Lib.hid hd
      generalize (al[j]'hlt) = p at hnp hfv htk ⊢
      obtain ⟨nm, v⟩ := p
      simp only at hnp hfv htk ⊢
      have hev := esc_len_le v hfv
      have hnl2 := nameP_len hnp
      have cAt := Lib.hid (fun W => xattr_any nm v (atsL (al.drop (j + 1))) W hnp hfv hRl)
      have hc0 : ∃ c r, nm ++ 61 :: 39 :: (escL v ++ 39 :: atsL (al.drop (j + 1))) = c :: r ∧ blC c = false := by
        obtain ⟨hnn, -, -⟩ := name_bytes hnp
        cases nm with
        | nil => exact absurd rfl hnn
        | cons c r => exact ⟨c, _, rfl, nameC_bl (name_all hnp c (by simp))⟩
      have hL1 : (nm ++ 61 :: 39 :: (escL v ++ 39 :: atsL (al.drop (j + 1)))).length ≤ 200000 := by simp; omega
      have hRL : (atsL (al.drop (j + 1))).length < (nm ++ 61 :: 39 :: (escL v ++ 39 :: atsL (al.drop (j + 1)))).length := by simp; omega
      generalize hR : atsL (al.drop (j + 1)) = R at cAt hc0 hL1 hRl hRL ⊢
      replace hR := Lib.hid hR
      generalize nm ++ 61 :: 39 :: (escL v ++ 39 :: R) = L1 at cAt hc0 hL1 hRL ⊢
      have cSp : Hid (∀ W, Calls Tryd.prog 51 #[.string ⟨(32 :: L1).toArray⟩] W fun e w' => e = .returned (.int .i64 1) ∧ Below W.heap.size W w') := Lib.hid fun W => by
        obtain ⟨c, r, rfl, hb⟩ := hc0
        exact space_1 c r hb W (by simp only [List.length_cons] at *; omega)
      have hL1p : 1 ≤ L1.length := by obtain ⟨c, r, rfl, -⟩ := hc0; simp
      have x0 := ext_tl 32 L1
      have l0 : (32 :: L1).length = L1.length + 1 := rfl
      clear hc0
      generalize hL0 : 32 :: L1 = L0 at cSp x0 l0 ⊢
      replace hL0 := Lib.hid hL0
      have q0 : ((1 : Int) == (L0.length : Int)) = false := by rw [beq_eq_false_iff_ne]; omega
      have q1 : (1 : Int) ≤ (L0.length : Int) := by omega
      have q2 : L0.length ≤ 300000 := by omega
      have l0' := Lib.hid (show R.length < L0.length by omega)
      clear hRL
      clear l0
      obtain ⟨i0, hi, hz0, hz1, hz2⟩ := info_parts infoA
      have hbs := hB.out.size
      go_wp2_with (first
        | (go_at_call 51; refine (cSp.out _).mono ?_; rintro e w2 ⟨rfl, hb2⟩; replace hb2 := Lib.hid hb2)
        | (go_at_call 37; refine (must_ok 6 _).mono ?_; rintro e w3 ⟨rfl, rfl⟩)
        | (go_at_call 68; refine (cAt.out _).mono ?_; rintro e w4 ⟨rfl, hb4⟩
           have hob4 := obj_belowP ((heap_alloc w2 (.cells #[.string ⟨#[]⟩, .string ⟨#[]⟩] 39)).1) hb4
           obtain ⟨xc4, xf4, xl4⟩ := obj_cells hob4
           have c40 : w4.cell? ⟨w2.heap.size, 0, none⟩ = some (.string ⟨#[]⟩) := (xc4 0).trans rfl
           have c41 : w4.cell? ⟨w2.heap.size, 1, none⟩ = some (.string ⟨#[]⟩) := (xc4 1).trans rfl
           have f40 := xf4 0
           have f41 := xf4 1
           clear xc4 xf4
           have hBf : Below wr.heap.size wr (((w4.setCell ⟨w2.heap.size, 0, none⟩ (.string ⟨nm.toArray⟩)).setCell ⟨w2.heap.size, 1, none⟩ (.string ⟨v.toArray⟩)).alloc (.cells #[.string ⟨nm.toArray⟩, .string ⟨v.toArray⟩] 39)) := by
             have h1 := hb2.out.size
             have h2 := (hb2.out.alloc h1 (.cells #[.string ⟨#[]⟩, .string ⟨#[]⟩] 39)).trans (hb4.mono (by simp; omega))
             have h3 := (h2.setCell (p := ⟨w2.heap.size, 0, none⟩) h1 (.string ⟨nm.toArray⟩)).setCell (p := ⟨w2.heap.size, 1, none⟩) h1 (.string ⟨v.toArray⟩)
             exact h3.alloc h3.size _
           have hOA := owns_keep2 hOw.out (fun b hb => hBf.block b hb)
           have hnew : (((w4.setCell ⟨w2.heap.size, 0, none⟩ (.string ⟨nm.toArray⟩)).setCell ⟨w2.heap.size, 1, none⟩ (.string ⟨v.toArray⟩)).alloc (.cells #[.string ⟨nm.toArray⟩, .string ⟨v.toArray⟩] 39)).heap[w4.heap.size]? = some (.cells #[.string ⟨nm.toArray⟩, .string ⟨v.toArray⟩] 39) := by
             have := (heap_alloc ((w4.setCell ⟨w2.heap.size, 0, none⟩ (.string ⟨nm.toArray⟩)).setCell ⟨w2.heap.size, 1, none⟩ (.string ⟨v.toArray⟩)) (.cells #[.string ⟨nm.toArray⟩, .string ⟨v.toArray⟩] 39)).1
             simpa using this
           have hszf := Lib.hid (Nat.le_trans hbs hBf.size)
           replace hBf := Lib.hid hBf
           replace hOA := Lib.hid hOA
           replace hnew := Lib.hid hnew
           replace hob4 := Lib.hid hob4
           replace hb4 := Lib.hid hb4)
        | (at_builtin; refine wpList_append_own _ rfl _ _ 33 rfl w.heap.size 39 i0 _ 2 32 Tryd.underlying33 hi hz0 hz1 hz2 rfl (by decide) _ _ _ rfl hOA.out ⟨w4.heap.size, 0, none⟩ 1 1 (aC nm v) rfl rfl (fun j u h => by rw [Addr.add_lit]; exact aC_cells hnew.out j u h) (aC_one _ _) (by unfold maxLen; omega) (by omega) hszf.out ?_
           intro v5 w5 hO5 hg5 _
           replace hO5 := Lib.hid hO5
           replace hg5 := Lib.hid hg5))
      go_roundw
      case rel =>
        refine ⟨j + 1, by omega, by rw [hR.out], Lib.hid ?_, Lib.hid ((hB.out.trans (hBf.out.mono hbs)).grown hg5.out hszf.out (fun k hk => (hOA.out.lt k hk).1))⟩
        rw [htk, atCells_snoc]
        exact hO5.out
      case measure =>
        simp only [strLen, ByteArray.size, List.size_toArray]
        exact l0'.out
    · obtain rfl : j = al.length := by omega
      rw [List.drop_length]
      have hM8 : S.op.length < 8 := h8
      obtain ⟨M, hM⟩ : ∃ M, M = S.op.length := ⟨_, rfl⟩
      have hcond : (∃ m, M = m + 1) ∨ (M = 0 ∧ S.rt = false) := by
        by_cases h : S.op = []
        · exact .inr ⟨by rw [hM, h]; rfl, hrt.resolve_left fun h' => h' h⟩
        · exact .inl (by have := List.length_pos_iff.2 h; exact ⟨S.op.length - 1, by omega⟩)
      go_upto_region 9 with (go_at_call 51; refine (space_nil _).mono ?_; rintro e w2 ⟨rfl, hb2⟩; replace hb2 := Lib.hid hb2)
      have hB2 := belowT hB.out hb2.out
      have hA2 := owns_keep2 hOw.out (fun k hk => hb2.out.block k hk)
      rw [List.take_length] at hA2
      clear cSf cNm hea' hOw hb2 hB
      have hP2 := hP.out.below hB2
      obtain ⟨hBn, wv, ov, an, hobj, hOww, hOo, hKw⟩ := id hP2
      obtain ⟨c0, c1, c2, c3, c4, c5, hfz, hBl⟩ := pr_cells hobj
      obtain ⟨sa, sc, rfl⟩ := owns_val hA2
      rw [← hM] at hOo hM8
      obtain ⟨oa, oc, rfl⟩ := owns_val hOo
      replace hM := Lib.hid hM
      replace hA2 := Lib.hid hA2
      replace hobj := Lib.hid hobj
      replace hOww := Lib.hid hOww
      replace hOo := Lib.hid hOo
      replace hKw := Lib.hid hKw
      replace hP2 := Lib.hid hP2
      replace hB2 := Lib.hid hB2
      go_cut [56] (fun v56 W => v56 = .bool true ∧ w2 = W)
      case first =>
        rcases hcond with ⟨m, rfl⟩ | ⟨rfl, h2⟩
        · have q0 : (0 : Int) < (m : Int) + 1 := by omega
          go_wp2_with (go_at_call 37; refine (must_ok 6 _).mono ?_; rintro e w3 ⟨rfl, rfl⟩)
          go_meet
          exact ⟨rfl, rfl⟩
        · rw [h2] at c3
          clear h2
          go_wp2_with (go_at_call 37; refine (must_ok 6 _).mono ?_; rintro e w3 ⟨rfl, rfl⟩)
          go_meet
          exact ⟨rfl, rfl⟩
      obtain ⟨rfl, rfl⟩ := hcut
      clear hcond
      have hal9 : (al.length : Int) ≤ 8 := by omega
      go_wp2_with (go_at_call 37; refine (must_ok 5 _).mono ?_; rintro e w3 ⟨rfl, rfl⟩)
      replace hM8 : (M : Int) < 8 := by omega
      go_loopw [64] (fun s64 wr => ∃ i : Nat, i ≤ al.length ∧ s64 = .int .i64 i ∧ Hid (Below w2.heap.size w2 wr)) (fun s64 _ => al.length - (intOf s64).toNat)
      case atStart => exact ⟨0, by omega, rfl, Lib.hid (Below.refl _ _)⟩
      case round =>
        obtain ⟨i, hil, rfl, hBr⟩ := hrel
        clear c0 c1 c2 c3 c4 c5 hfz
        by_cases hlt : i < al.length
        · obtain ⟨g, c9, hsl, hgb, hgl⟩ := owns_head hA2.out (by omega)
          obtain ⟨e1, -, e3⟩ := Value.slice.inj hsl
          subst e1 e3
          have hAr := owns_keep2 hA2.out (fun k hk => hBr.out.block k hk)
          have hcs : ∀ j (hj : j < al.length), wr.cell? ⟨g, j * 2, none⟩ = some (.string ⟨(al[j]'hj).1.toArray⟩) ∧ wr.cell? ⟨g, j * 2 + 1, none⟩ = some (.string ⟨(al[j]'hj).2.toArray⟩) := fun j hj => by
            have c1 := World.ownsRow.cells hAr (g := g) rfl (j * 2) _ (atCells_get al j hj).1
            have c2 := World.ownsRow.cells hAr (g := g) rfl (j * 2 + 1) _ (atCells_get al j hj).2
            rw [Addr.add_lit, Nat.zero_add] at c1 c2
            exact ⟨c1, c2⟩
          obtain ⟨d0, d1⟩ := hcs i hlt
          have hno : ∀ j (hj : j < (al.take i).length), ((al.take i)[j]'hj).1 ≠ (al[i]'hlt).1 := fun j hj => by
            have hji : j < i := by rw [List.length_take] at hj; omega
            rw [List.getElem_take]
            exact hapt.out i hlt j (by omega) hji
          generalize (al[i]'hlt) = p at d0 d1 hno
          obtain ⟨nm, v⟩ := p
          simp only at d0 d1 hno
          have hgr : g < wr.heap.size := Nat.lt_of_lt_of_le hgl hBr.out.size
          have hnew := (heap_alloc wr (.cells #[.string ⟨nm.toArray⟩, .string ⟨v.toArray⟩] 39)).1
          have hB5 := below1 wr (.cells #[.string ⟨nm.toArray⟩, .string ⟨v.toArray⟩] 39)
          have hND := Lib.hid (noDup_any (some ⟨g, 0, none⟩) sc i g wr.heap.size (al.take i) nm _ (by rw [List.length_take]; omega) (fun _ => rfl) (by omega) (fun j hj => by
            have hj' : j < al.length := by rw [List.length_take] at hj; omega
            obtain ⟨q0, q1⟩ := hcs j hj'
            rw [List.getElem_take]
            exact ⟨(hB5.cell (p := ⟨g, j * 2, none⟩) hgr).trans q0, (hB5.cell (p := ⟨g, j * 2 + 1, none⟩) hgr).trans q1⟩) (fun _ => Nat.lt_of_lt_of_le hgr hB5.size) hno (((obj_cells hnew).1 0).trans rfl) (obj_cells hnew).2.2)
          have hii : (i : Int) < (al.length : Int) := by omega
          have hii2 : (i : Int) ≤ (sc : Int) := by
            rcases hAr.2 with ⟨h, -⟩ | ⟨g', cap, cur, h, -, -, h2, -⟩
            · cases h
            · obtain ⟨-, -, h⟩ := Value.slice.inj h; omega
          have hi0 : (0 : Int) ≤ (i : Int) := by omega
          replace hAr := Lib.hid hAr
          replace hcs := Lib.hid hcs
          replace hnew := Lib.hid hnew
          replace hB5 := Lib.hid hB5
          replace hno := Lib.hid hno
          go_wp2_with (first
            | (go_at_call 69; refine hND.out.mono ?_; rintro e w6 ⟨rfl, hb6⟩; replace hb6 := Lib.hid hb6)
            | (go_at_call 37; refine (must_ok 6 _).mono ?_; rintro e w3 ⟨rfl, rfl⟩))
          go_roundw
          case rel => exact ⟨i + 1, by omega, by go_num, Lib.hid (belowT hBr.out (belowT hB5.out hb6.out))⟩
          case measure => simp [intOf]; omega
        · obtain rfl : i = al.length := by omega
          have hB3 := belowT hB2.out hBr.out
          have hobj3 := (hBr.out.block B hBl).trans hobj.out
          obtain ⟨d0, d1, d2, d3, d4, d5, dfz, dBl⟩ := pr_cells hobj3
          have hO3 := hO.out.below hB3
          have hA3 := owns_keep2 hA2.out (fun k hk => hBr.out.block k hk)
          have hOl : O < w.heap.size := by
            obtain ⟨-, v, hv, -⟩ := hO.out
            exact (Array.getElem?_eq_some_iff.1 hv).1
          have hsz3 := hB3.size
          have hG : wr.grownBy (wr.setCell ⟨B, 3, none⟩ (.bool true)) (some B) := grown_set _ (grown_of (Below.refl _ _))
          have hPs : PsAt K n0 B (wr.setCell ⟨B, 3, none⟩ (.bool true)) ⟨S.w, S.q, S.op, true⟩ := ⟨hBn, wv, .slice oa M oc, an, obj_set (i := 3) hobj3 _, owns_grown (owns_keep2 hOww.out (fun k hk => hBr.out.block k hk)) (Nat.le_refl _) hBn hG, by
            have := owns_grown (owns_keep2 hOo.out (fun k hk => hBr.out.block k hk)) (Nat.le_refl _) hBn hG
            rw [hM.out] at this ⊢; exact this, hKw.out⟩
          have hOs : OutAt n1 O (wr.setCell ⟨B, 3, none⟩ (.bool true)) l := hO3.keep (by rw [World.size_setCell]; exact Nat.le_refl _) (fun k hk hk2 => Below.heap_setCell _ _ _ _ (by rcases hk2 with h | h <;> (simp; omega)))
          have hSs : Step2 n1 B O w (wr.setCell ⟨B, 3, none⟩ (.bool true)) := (Step2.below hB3).trans (Step2.setB _)
          have hAx : AtX (fun b => w.heap.size ≤ b) (wr.setCell ⟨B, 3, none⟩ (.bool true)) (.slice sa al.length sc) al := AtX.keep (owns_at hA3 rfl) (by rw [World.size_setCell]; exact Nat.le_refl _) (fun b _ hb => Below.heap_setCell _ _ _ _ (by show b ≠ B; omega))
          have hAt : AtT w.heap.size (wr.setCell ⟨B, 3, none⟩ (.bool true)) (.slice sa al.length sc) := (atT_own hA3).keep (fun b hb _ => Below.heap_setCell _ _ _ _ (by show b ≠ B; omega))
          have hT := tkF_new (W := wr.setCell ⟨B, 3, none⟩ (.bool true)) (n := w.heap.size) 1 n [] (by rw [World.size_setCell]; exact hsz3) hAx hAt
          have hR := hO.out.rows2 (w' := (wr.setCell ⟨B, 3, none⟩ (.bool true)).alloc (.cells #[.int .u8 1, .string ⟨n.toArray⟩, .slice sa al.length sc, .string ⟨#[]⟩] 35))
            (((below1 _ _).cell (p := ⟨O, 0, none⟩) (by rw [World.size_setCell]; show O < _; omega)).trans ((World.cell?_of_block (a := ⟨O, 0, none⟩) (Below.heap_setCell _ _ _ _ (by show O ≠ B; exact hne))).trans (hB3.cell (p := ⟨O, 0, none⟩) hOl)))
          simp only [World.size_setCell] at hT
          have hTell := Lib.hid (tell_any n0 n1 B O w.heap.size ⟨S.w, S.q, S.op, true⟩ l [⟨1, n, al, []⟩] _ _ (hPs.below (below1 _ _)) (hOs.below (below1 _ _)) hne (by simp only [World.size_alloc, World.size_setCell]; omega) h01 hT h0 hR (by simp; omega))
          have hSt := Lib.hid (hSs.trans (Step2.below (below1 _ (.cells #[.int .u8 1, .string ⟨n.toArray⟩, .slice sa al.length sc, .string ⟨#[]⟩] 35))))
          clear hO3 hA3 hG hPs hOs hSs hAx hAt hT hR hobj3 hB3 hA2 hBr hobj hOww hOo
          have tok := Lib.hid True.intro
          cases emp with
          | true =>
            go_wp2_with (first
              | (have m0 := tok1; go_at_call 18; refine hTell2.out.mono ?_; rintro e w9 ⟨rfl, hP9, hO9, hS9⟩
                 have hS9' := Lib.hid (hS8.out.trans ((Step2.below (below1 _ (.cells #[.int .u8 2, .string ⟨n.toArray⟩, .slice none 0 0, .string ⟨#[]⟩] 35))).trans hS9))
                 replace hP9 := Lib.hid hP9; replace hO9 := Lib.hid hO9; clear hS9)
              | (have m0 := tok.out; go_at_call 18; refine hTell.out.mono ?_; rintro e w8 ⟨rfl, hP8, hO8, hS8⟩
                 have hs8 := (hSt.out.trans hS8).size
                 have hTell2 := Lib.hid (tell_any n0 n1 B O w8.heap.size ⟨S.w, S.q, S.op, true⟩ (l ++ [⟨1, n, al, []⟩]) [⟨2, n, [], []⟩] _ _ (hP8.below (below1 _ _)) (hO8.below (below1 _ _)) hne (by simp only [World.size_alloc]; omega) h01 (tkF_new 2 n [] (Nat.le_refl _) (atx_nil _ _) (atT_nil _ _)) (by omega) (hO8.rows _) (by simp; omega))
                 replace hS8 := Lib.hid (hSt.out.trans hS8)
                 replace hP8 := Lib.hid hP8; replace hO8 := Lib.hid hO8
                 have tok1 := True.intro; clear tok)
              | (go_at_call 37; refine (must_ok 5 _).mono ?_; rintro e w3 ⟨rfl, rfl⟩))
            go_end0
            exact ⟨rfl, hP9.out, by have := hO9.out; simpa using this, hS9'.out⟩
          | false =>
            obtain ⟨i0, hi, hz0, hz1, hz2⟩ := info_parts infoS
            go_wp2_with (first
              | (go_at_call 18; refine hTell.out.mono ?_; rintro e w8 ⟨rfl, hP8, hO8, hS8⟩
                 replace hS8 := hSt.out.trans hS8
                 have hs8 := hS8.size
                 obtain ⟨-, wv8, ov8, an8, hobj8, hOw8, hOo8, hK8⟩ := hP8
                 obtain ⟨e0, e1, e2, e3, e4, e5, efz, eBl⟩ := pr_cells hobj8
                 have hCl := Lib.hid (clone_op n0 ov8 S.op w8 hOo8 (by omega))
                 replace hS8 := Lib.hid hS8; replace hO8 := Lib.hid hO8; replace hobj8 := Lib.hid hobj8; replace hOw8 := Lib.hid hOw8; replace hOo8 := Lib.hid hOo8; replace hK8 := Lib.hid hK8)
              | (go_at_call 71; refine hCl.out.mono ?_; rintro e wa ⟨va, rfl, hOa, hBa⟩
                 obtain ⟨a9, c9, rfl⟩ := owns_val hOa
                 obtain ⟨va5, w5, hrb, hOb, hgb, -, -⟩ := run_append_own_at (P := Tryd.prog) (wa.alloc (.cells #[.string ⟨n.toArray⟩] 9)) _ 51 51 9 i0 _ 1 16 Tryd.underlying51 hi hz0 hz1 hz2 rfl (by decide) _ _ _ (hOa.alloc _) ⟨wa.heap.size, 0, none⟩ 1 1 [.string ⟨n.toArray⟩] rfl (cell_one_new _ _ _) (by simp [Value.oneCell']) (by unfold maxLen; omega) (by omega) (by have := hBa.size; simp only [World.size_alloc] at this ⊢; omega)
                 obtain ⟨a95, c95, rfl⟩ := owns_val hOb
                 have hB5 := (hBa.alloc hBa.size (.cells #[.string ⟨n.toArray⟩] 9)).grown hgb (by have := hBa.size; simp only [World.size_alloc]; omega) (fun k hk => ((hOa.alloc (.cells #[.string ⟨n.toArray⟩] 9)).lt k hk).1)
                 have hobj5 := (hB5.block B eBl).trans hobj8.out
                 obtain ⟨f0, f1, f2, f3, f4, f5, ffz, fBl⟩ := pr_cells hobj5
                 have eBa : B < wa.heap.size := Nat.lt_of_lt_of_le eBl hBa.size
                 replace hrb := Lib.hid hrb; replace hOa := Lib.hid hOa; replace hBa := Lib.hid hBa; replace hOb := Lib.hid hOb; replace hB5 := Lib.hid hB5; replace hobj5 := Lib.hid hobj5; clear hgb)
              | (at_builtin; refine wpList_app_runP _ w5 rfl _ _ 51 rfl _ _ _ rfl rfl hrb.out ?_)
              | (go_at_call 37; refine (must_ok 5 _).mono ?_; rintro e w3 ⟨rfl, rfl⟩))
            go_end0
            have hGf : w5.grownBy (w5.setCell ⟨B, 2, none⟩ (.slice a95 (S.op.length + 1) c95)) (some B) := grown_set _ (grown_of (Below.refl _ _))
            refine ⟨rfl, ⟨hBn, wv8, _, an8, obj_set (i := 2) hobj5.out _, owns_grown (owns_keep2 hOw8.out (fun k hk => hB5.out.block k hk)) (Nat.le_refl _) hBn hGf, ?_, hK8.out⟩, (hO8.out.below hB5.out).keep (by rw [World.size_setCell]; exact Nat.le_refl _) (fun k hk hk2 => Below.heap_setCell _ _ _ _ (by rcases hk2 with h | h <;> (simp; omega))), (hS8.out.trans (Step2.below hB5.out)).trans (Step2.setB _)⟩
            have := owns_grown (n0 := n0) hOb.out (by omega) hBn hGf
            simpa [nameCells] using this
end Go.Proofs.YtjpdadibeocpfaaDoor
