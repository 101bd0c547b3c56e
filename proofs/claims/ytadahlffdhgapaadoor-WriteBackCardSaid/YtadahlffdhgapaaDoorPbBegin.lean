/-
  A beginning is read (heliographref03.begin): one that opens an element, and one that is empty. Conditions: right names and values; there is room.
-/
import Derived.Test.YtadahlffdhgapaaDoorPbEnd
import Derived.Deep.DeepCutAuto
namespace Go.Proofs.YtadahlffdhgapaaDoor
set_option linter.unusedVariables false
set_option linter.unusedSimpArgs false
open Go.RowKit Go.MapKept
attribute [local go_sem] mk_get ext0 extE alloc_drewN setCell_drewN
theorem attrs_apart : ∀ (seen : List (List UInt8)) (al : Ats), attrsP seen al = true → ∀ i (hi : i < al.length), (∀ x ∈ seen, x ≠ (al[i]'hi).1) ∧ ∀ j (hj : j < al.length), j < i → (al[j]'hj).1 ≠ (al[i]'hi).1
  | _, [], _, i, hi => absurd hi (by simp)
  | seen, q :: r, h, i, hi => by
    rw [attrsP] at h
    simp only [Bool.and_eq_true, decide_eq_true_eq, Bool.not_eq_true'] at h
    obtain ⟨⟨⟨⟨h1, -⟩, -⟩, -⟩, h5⟩ := h
    cases i with
    | zero =>
      refine ⟨fun x hx e => ?_, fun j _ hj => absurd hj (by omega)⟩
      have : seen.contains q.1 = true := by rw [List.contains_iff_mem]; rw [← show x = q.1 from e]; exact hx
      rw [this] at h1; cases h1
    | succ i =>
      have ih := attrs_apart (seen ++ [q.1]) r h5 i (by simpa using hi)
      refine ⟨fun x hx => ih.1 x (by simp [hx]), fun j hj hji => ?_⟩
      cases j with
      | zero => exact ih.1 q.1 (by simp)
      | succ j => exact ih.2 j (by simpa using hj) (by omega)
theorem attrs_len {al : Ats} (h : attrsP [] al = true) : al.length ≤ 8 := by
  have := (attrsP_each [] al h (by simp)).1
  simpa using this
/-- what stands behind a tag's name is no part of it -/
theorem ats_head (al : Ats) (c : UInt8) (r : List UInt8) (hc : nameC c = false) : ∃ c' r', atsL al ++ c :: r = c' :: r' ∧ nameC c' = false := by
  cases al with
  | nil => exact ⟨c, r, rfl, hc⟩
  | cons p q => exact ⟨32, (p.1 ++ [61, 39] ++ escL p.2 ++ [39]) ++ (atsL q ++ c :: r), by simp [atsL, atP], by decide⟩
theorem ats_last : ∀ (al : Ats), atsL al = [] ∨ ∃ r, atsL al = r ++ [39]
  | [] => .inl rfl
  | p :: q => by
    refine .inr ?_
    have e : atsL (p :: q) = atP p ++ atsL q := by unfold atsL; rw [List.flatMap_cons]
    rcases ats_last q with h | ⟨r, h⟩
    · exact ⟨[32] ++ p.1 ++ [61, 39] ++ escL p.2, by rw [e, h, List.append_nil]; rfl⟩
    · exact ⟨atP p ++ r, by rw [e, h, List.append_assoc]⟩
set_option maxRecDepth 100000 in
set_option maxHeartbeats 8000000 in
theorem refBegin_beg (n0 B : Nat) (n : List UInt8) (al : Ats) (S : Ps) (w : World) (hP : PsAt n0 B w S) (h0 : n0 ≤ w.heap.size) (hn : nameP n = true) (ha : attrsP [] al = true) (h8 : S.op.length < 8) (hrt : S.op ≠ [] ∨ S.rt = false) :
    Calls Tryd.prog 47 #[.pointer (some ⟨B, 0, none⟩), .string ⟨(Pc.beg n al).text.toArray⟩] w fun e w' => ∃ tv, e = .returned (.tuple #[tv, .int .i64 0]) ∧ TkO w.heap.size w' tv (Pc.beg n al).toks ∧ PsAt n0 B w' ⟨S.w, S.q, S.op ++ [n], true⟩ ∧ w.grownBy w' (some B) := by
  obtain ⟨hBn, wv, ov, an, hobj, hOw, hOo⟩ := hP
  have hBl := (Array.getElem?_eq_some_iff.1 hobj).1
  have hnl := nameP_len hn
  have hna := name_all hn
  have ha8 := attrs_len ha
  have hea := attrs_each [] al ha
  have hal := atsL_len hea
  have hap := Lib.hid (attrs_apart [] al ha)
  obtain ⟨c', r', hc1, hc2⟩ := ats_head al 62 [] (by decide)
  obtain ⟨i0, hi, hz0, hz1, hz2⟩ := info_parts infoS
  obtain ⟨M, hM⟩ : ∃ M, M = S.op.length := ⟨_, rfl⟩
  rw [← hM] at hOo h8
  have hcond : ((M : Int) == 0) = false ∨ (((M : Int) == 0) = true ∧ S.rt = false) := by
    rcases hrt with h | h
    · refine .inl ?_
      rw [beq_eq_false_iff_ne, hM]
      have := List.length_pos_iff.2 h
      omega
    · by_cases h0 : M = 0
      · exact .inr ⟨by rw [h0]; rfl, h⟩
      · refine .inl ?_
        rw [beq_eq_false_iff_ne]; omega
  replace hM := Lib.hid hM
  obtain ⟨oa, oc, rfl⟩ := owns_val hOo
  have hNm : Hid (∀ W, Calls Tryd.prog 35 #[.string ⟨n.toArray⟩] W fun e w' => e = .returned (.bool true) ∧ w' = W) := Lib.hid fun W => by have := refName_any n W (by omega); rw [hn] at this; exact this.mono fun e w'' h => ⟨h.1, h.2.symm⟩
  have hHd : Hid (∀ W, Calls Tryd.prog 50 #[.string ⟨(n ++ (atsL al ++ [62])).toArray⟩] W fun e w' => e = .returned (.int .i64 (n.length : Nat)) ∧ W = w') := Lib.hid fun W => by
    have := refHead_any (n ++ (atsL al ++ [62])) W (by simp; omega)
    rw [hc1, head_app hna hc2] at this
    rw [hc1]; exact this
  have hAt := Lib.hid (refAttributes_any al w hea ha8)
  have d1 : (Pc.beg n al).text.drop 1 = n ++ (atsL al ++ [62]) := by simp [Pc.text]
  have x1 : (ByteArray.mk (Pc.beg n al).text.toArray).extract 1 (1 + n.length) = ⟨n.toArray⟩ := by
    have := ext_mid [60] n (atsL al ++ [62])
    rw [show [60] ++ (n ++ (atsL al ++ [62])) = (Pc.beg n al).text by simp [Pc.text]] at this
    exact this
  have lT : (Pc.beg n al).text.length = n.length + ((atsL al).length) + 2 := by simp [Pc.text]; omega
  have x2 : (ByteArray.mk (Pc.beg n al).text.toArray).extract (1 + n.length) (1 + n.length + ((atsL al).length)) = ⟨(atsL al).toArray⟩ := by
    have := ext_mid ([60] ++ n) (atsL al) [62]
    rw [show ([60] ++ n) ++ ((atsL al) ++ [62]) = (Pc.beg n al).text by simp [Pc.text]] at this
    have e1 : ([60] ++ n).length = 1 + n.length := by simp; omega
    have e2 : (atsL al).length = (atsL al).length := by simp
    rw [e1, e2] at this
    exact this
  have hR : ((0 : Int) < ((atsL al).length : Int) ∧ ∀ h, ((((atsL al)[(atsL al).length - 1]'h).toNat : Int) == 47) = false) ∨ ¬ (0 : Int) < ((atsL al).length : Int) := by
    rcases ats_last al with h | ⟨r, h⟩
    · exact .inr (by rw [h]; simp)
    · refine .inl ⟨by rw [h]; simp, fun h' => ?_⟩
      simp only [h]
      rw [List.getElem_append_right (by simp)]
      simp
  generalize (Pc.beg n al).text = T at d1 x1 x2 lT ⊢
  generalize n ++ (atsL al ++ [62]) = X at hHd d1
  generalize atsL al = R at hAt hR x2 lT hal
  have t1 : ((1 : Int) + (n.length : Int)).toNat = 1 + n.length := by omega
  have t2 : ((T.length : Int) - 1).toNat = 1 + n.length + (R.length) := by omega
  have t3 : (0 : Int) ≤ 1 + (n.length : Int) := by omega
  have t4 : (1 : Int) ≤ 1 + (n.length : Int) := by omega
  have t5 : 1 + (n.length : Int) ≤ (T.length : Int) := by omega
  have t6 : 1 + (n.length : Int) ≤ (T.length : Int) - 1 := by omega
  have t7 : (T.length : Int) - 1 ≤ (T.length : Int) := by omega
  have t8 : (1 : Int) ≤ (T.length : Int) := by omega
  have t9 : (0 : Int) ≤ (T.length : Int) - 1 := by omega
  have t10 : (T.length : Int) ≤ 100000 := by omega
  replace lT := Lib.hid lT
  replace hn := Lib.hid hn
  replace hna := Lib.hid hna
  replace hea := Lib.hid hea
  replace ha := Lib.hid ha
  replace hc1 := Lib.hid hc1
  replace hc2 := Lib.hid hc2
  replace hOw := Lib.hid hOw
  replace hOo := Lib.hid hOo
  replace hobj := Lib.hid hobj
  go_enter Tryd.func47, Tryd.ntmps47
  go_upto_region 4 with (first
    | (go_at_call 50; refine (hHd.out _).mono ?_; rintro e w1 ⟨rfl, rfl⟩))
  go_cut [9] (fun v9 W => v9 = .bool false ∧ w = W)
  case first =>
    rcases hR with ⟨hR1, hR2⟩ | hR1
    · replace hR2 := hR2 (by omega)
      have hR3 : ((R.length : Int) - 1).toNat = R.length - 1 := by omega
      have hR4 : (1 : Int) ≤ (R.length : Int) ∧ (R.length : Int) - 1 < (R.length : Int) := by omega
      have hR5 : (0 : Int) ≤ (R.length : Int) - 1 := by omega
      go_wp2_with fail
      go_meet
      exact ⟨rfl, rfl⟩
    · go_wp2_with fail
      go_meet
      exact ⟨rfl, rfl⟩
  obtain ⟨rfl, rfl⟩ := hcut
  clear hR
  go_upto_region 8 with (first
    | (go_at_call 50; refine (hHd.out _).mono ?_; rintro e w1 ⟨rfl, rfl⟩)
    | (go_at_call 51; refine hAt.out.mono ?_; rintro e w1 ⟨sv, rfl, hA1, hB1⟩
       have hobj1 := (hB1.block B hBl).trans hobj.out
       obtain ⟨c0, c1, c2, c3, c4, c5, hfz, hBl1⟩ := pr_cells hobj1
       obtain ⟨sa, sc, rfl⟩ := owns_val hA1
       replace hobj1 := Lib.hid hobj1
       replace hA1 := Lib.hid hA1
       replace hB1 := Lib.hid hB1))
  go_cut [71] (fun v71 W => v71 = .bool false ∧ w1 = W)
  case first =>
    rcases hcond with h1 | ⟨h1, h2⟩
    · go_wp2_with (go_at_call 35; refine (hNm.out _).mono ?_; rintro e w2 ⟨rfl, rfl⟩)
      go_meet
      exact ⟨rfl, rfl⟩
    · go_wp2_with (go_at_call 35; refine (hNm.out _).mono ?_; rintro e w2 ⟨rfl, rfl⟩)
      go_meet
      exact ⟨rfl, rfl⟩
  obtain ⟨rfl, rfl⟩ := hcut
  clear hcond
  have hal9 : ¬ (8 : Int) < (al.length : Int) := by omega
  have hM8 : ¬ (8 : Int) ≤ (M : Int) := by omega
  go_wp2_with fail
  go_loopw [12] (fun s12 wr => ∃ i m : Nat, i ≤ al.length ∧ s12 = .int .i64 i ∧ wr = w1.drewN m) (fun s12 _ => al.length - (intOf s12).toNat)
  case atStart => exact ⟨0, 0, by omega, rfl, rfl⟩
  case round =>
    obtain ⟨i, m, hil, rfl, rfl⟩ := hrel
    by_cases hlt : i < al.length
    · obtain ⟨g, c9, hsl, hgb, hgl⟩ := owns_head hA1.out (by omega)
      obtain ⟨e1, -, e3⟩ := Value.slice.inj hsl
      subst e1 e3
      have hcells := Lib.hid (owns_at hA1.out rfl)
      have hii : (i : Int) < (al.length : Int) := by omega
      have hcj := Lib.hid (fun j (hj : j < al.length) => (by
        have := World.ownsRow.cells hA1.out (g := g) rfl (j * 2) _ (atCells_get al j hj).1
        rwa [Addr.add_lit, Nat.zero_add] at this : w1.cell? ⟨g, j * 2, none⟩ = some (.string ⟨(al[j]'hj).1.toArray⟩)))
      go_wp2_with fail
      go_loopw [13] (fun s13 wr => ∃ j k : Nat, j ≤ i ∧ s13 = .int .i64 j ∧ wr = w1.drewN k) (fun s13 _ => i - (intOf s13).toNat)
      case atStart => exact ⟨0, m, by omega, rfl, rfl⟩
      case round =>
        obtain ⟨j, k, hji, rfl, rfl⟩ := hrel
        by_cases hjl : j < i
        · have hjj : (j : Int) < (i : Int) := by omega
          have hjj2 : (j : Int) < (al.length : Int) := by omega
          have q1 := hcj.out j (by omega)
          have q2 := hcj.out i hlt
          have q3 := (hap.out i hlt).2 j (by omega) hjl
          generalize (al[j]'(by omega)).1 = x at q1 q3
          generalize (al[i]'hlt).1 = y at q2 q3
          have q4 : (x == y) = false := by simpa using q3
          clear q3
          go_wp2_with fail
          go_quiet (fail)
          go_wp2_with fail
          go_roundw
          case rel => exact ⟨j + 1, _, by omega, by go_num, rfl⟩
          case measure => simp [intOf]; omega
        · have hjj : ¬ (j : Int) < (i : Int) := by omega
          go_wp2_with fail
          go_roundw
          case rel => exact ⟨i + 1, _, by omega, by go_num, rfl⟩
          case measure => simp [intOf]; omega
    · have hii : ¬ (i : Int) < (al.length : Int) := by omega
      have hgS : w.grownBy (w1.setCell ⟨B, 3, none⟩ (.bool true)) (some B) := grown_set _ (grown_of hB1.out)
      have hgW := grown_below hgS (belowN (below1 _ (.cells #[.int .u8 1, .string ⟨n.toArray⟩, .slice sa al.length sc, .string ⟨#[]⟩] 42)) m)
      have hoW := obj_alloc (o' := .cells #[.int .u8 1, .string ⟨n.toArray⟩, .slice sa al.length sc, .string ⟨#[]⟩] 42) (obj_set (i := 3) hobj1.out (.bool true))
      have hT0 := tkF_new (W := w1.setCell ⟨B, 3, none⟩ (.bool true)) (n := w.heap.size) 1 n [] hgS.size (AtX.keep (owns_at hA1.out rfl) (by rw [World.size_setCell]; exact Nat.le_refl _) (fun b _ hb => Below.heap_setCell _ _ _ _ (by show b ≠ B; omega)))
      obtain ⟨va, wa, hra, hOa, hBa⟩ := row_copy (P := Tryd.prog) (((w1.setCell ⟨B, 3, none⟩ (.bool true)).alloc (.cells #[.int .u8 1, .string ⟨n.toArray⟩, .slice sa al.length sc, .string ⟨#[]⟩] 42)).drewN m) n0 55 9 i0 _ 1 16 Tryd.underlying55 hi hz0 hz1 hz2 rfl (by decide) _ _ _ (owns_grown hOo.out (Nat.le_refl _) hBn hgW) (nameCells_one _) (by unfold maxLen; omega) (by omega)
      have hgA := grown_below hgW hBa
      have hoA := (hBa.block B (by rw [size_drewN, World.size_alloc, World.size_setCell]; omega)).trans hoW
      obtain ⟨a9, c9, rfl⟩ := owns_val hOa
      obtain ⟨va5, wa5, hrb, hOb, hgb, -, -⟩ := run_append_own_at (P := Tryd.prog) (wa.alloc (.cells #[.string ⟨n.toArray⟩] 9)) _ 55 55 9 i0 _ 1 16 Tryd.underlying55 hi hz0 hz1 hz2 rfl (by decide) _ _ _ (hOa.alloc _) ⟨wa.heap.size, 0, none⟩ 1 1 [.string ⟨n.toArray⟩] rfl (cell_one_new _ _ _) (by simp [Value.oneCell']) (by unfold maxLen; omega) (by omega) (by have := hBa.size; simp only [World.size_alloc] at this ⊢; omega)
      have hbase : w.heap.size ≤ (((w1.setCell ⟨B, 3, none⟩ (.bool true)).alloc (.cells #[.int .u8 1, .string ⟨n.toArray⟩, .slice sa al.length sc, .string ⟨#[]⟩] 42)).drewN m).heap.size := hgW.size
      have hgB := grown_row (grown_below hgA (below1 _ (.cells #[.string ⟨n.toArray⟩] 9))) hgb (fun r hr => Nat.le_trans hbase ((hOa.alloc (.cells #[.string ⟨n.toArray⟩] 9)).lt r hr).1)
      have hoB := (hgb.block B (by have := hBa.size; have := hgA.size; rw [World.size_alloc]; omega) (fun e => by have := ((hOa.alloc (.cells #[.string ⟨n.toArray⟩] 9)).lt B e.symm).1; omega)).trans (obj_alloc hoA)
      have hT5 : TkO w.heap.size wa5 (.slice (some ⟨(w1.setCell ⟨B, 3, none⟩ (.bool true)).heap.size, 0, none⟩) 1 1) [⟨1, n, al, []⟩] := TkO.keep hT0 (by have := hBa.size; have := hgb.size; simp only [World.size_alloc, size_drewN, World.size_setCell] at *; omega) (fun b hb1 hb2 => by
        have h1 : b < (((w1.setCell ⟨B, 3, none⟩ (.bool true)).alloc (.cells #[.int .u8 1, .string ⟨n.toArray⟩, .slice sa al.length sc, .string ⟨#[]⟩] 42)).drewN m).heap.size := hb2
        have h2 := hBa.size
        rw [hgb.block b (by rw [World.size_alloc]; omega) (fun e => by have := ((hOa.alloc (.cells #[.string ⟨n.toArray⟩] 9)).lt b e.symm).1; omega), Below.heap_alloc _ _ _ (by omega)]
        exact hBa.block b h1)
      rw [alloc_drewN] at hra
      simp only [size_drewN, World.size_alloc, World.size_setCell] at hra
      replace hra := Lib.hid hra
      replace hrb := Lib.hid hrb
      replace hoA := Lib.hid hoA
      replace hT0 := Lib.hid hT0
      replace hOa := Lib.hid hOa
      replace hOb := Lib.hid hOb
      have c2m : wa.cell? ⟨B, 2, none⟩ = some (.slice oa M oc) := (obj_cells hoA.out).1 2
      obtain ⟨a95, c95, rfl⟩ := owns_val hOb.out
      have hfB := fun o => (obj_cells hoB).2.1 o
      have hlB := (obj_cells hoB).2.2
      have hcB := (obj_cells hoB).1 2
      replace hoB := Lib.hid hoB
      have hBwa : B < wa.heap.size := (obj_cells hoA.out).2.2
      have tok := Lib.hid True.intro
      go_wp2_with (first
        | (have m0 := tok1; at_builtin; refine wpList_append_run _ wa5 rfl _ _ 55 rfl _ _ _ rfl rfl hrb.out ?_)
        | (have m0 := tok.out; at_builtin; refine wpList_append_run _ wa rfl _ _ 55 rfl _ _ _ rfl rfl hra.out ?_; have tok1 := True.intro))
      go_ret2
      have hgF : w.grownBy (wa5.setCell ⟨B, 2, none⟩ (.slice a95 (M + 1) c95)) (some B) := grown_set _ hgB
      refine ⟨_, rfl, ?_, ⟨hBn, wv, .slice a95 (M + 1) c95, an, ?_, ?_, ?_⟩, hgF⟩
      · rw [World.size_setCell] at hT5
        refine TkO.keep hT5 (by rw [World.size_setCell]; exact Nat.le_refl _) (fun b hb1 hb2 => Below.heap_setCell _ _ _ _ (by show b ≠ B; omega))
      · exact obj_set (i := 2) hoB.out _
      · exact owns_grown hOw.out (Nat.le_refl _) hBn hgF
      · have := owns_grown (w := wa5) (w' := wa5.setCell ⟨B, 2, none⟩ (.slice a95 (M + 1) c95)) hOb.out (Nat.le_trans h0 hbase) hBn (grown_set _ (grown_of (Below.refl _ _)))
        rw [hM.out] at this ⊢
        simpa [nameCells] using this
set_option maxRecDepth 100000 in
set_option maxHeartbeats 8000000 in
theorem refBegin_emp (n0 B : Nat) (n : List UInt8) (al : Ats) (S : Ps) (w : World) (hP : PsAt n0 B w S) (h0 : n0 ≤ w.heap.size) (hn : nameP n = true) (ha : attrsP [] al = true) (h8 : S.op.length < 8) (hrt : S.op ≠ [] ∨ S.rt = false) :
    Calls Tryd.prog 47 #[.pointer (some ⟨B, 0, none⟩), .string ⟨(Pc.emp n al).text.toArray⟩] w fun e w' => ∃ tv, e = .returned (.tuple #[tv, .int .i64 0]) ∧ TkO w.heap.size w' tv (Pc.emp n al).toks ∧ PsAt n0 B w' ⟨S.w, S.q, S.op, true⟩ ∧ w.grownBy w' (some B) := by
  obtain ⟨hBn, wv, ov, an, hobj, hOw, hOo⟩ := hP
  have hBl := (Array.getElem?_eq_some_iff.1 hobj).1
  have hnl := nameP_len hn
  have hna := name_all hn
  have ha8 := attrs_len ha
  have hea := attrs_each [] al ha
  have hal := atsL_len hea
  have hap := Lib.hid (attrs_apart [] al ha)
  obtain ⟨c', r', hc1, hc2⟩ := ats_head al 47 [62] (by decide)
  obtain ⟨i0, hi, hz0, hz1, hz2⟩ := info_parts infoS
  obtain ⟨M, hM⟩ : ∃ M, M = S.op.length := ⟨_, rfl⟩
  rw [← hM] at hOo h8
  have hcond : ((M : Int) == 0) = false ∨ (((M : Int) == 0) = true ∧ S.rt = false) := by
    rcases hrt with h | h
    · refine .inl ?_
      rw [beq_eq_false_iff_ne, hM]
      have := List.length_pos_iff.2 h
      omega
    · by_cases h0 : M = 0
      · exact .inr ⟨by rw [h0]; rfl, h⟩
      · refine .inl ?_
        rw [beq_eq_false_iff_ne]; omega
  replace hM := Lib.hid hM
  obtain ⟨oa, oc, rfl⟩ := owns_val hOo
  have hNm : Hid (∀ W, Calls Tryd.prog 35 #[.string ⟨n.toArray⟩] W fun e w' => e = .returned (.bool true) ∧ w' = W) := Lib.hid fun W => by have := refName_any n W (by omega); rw [hn] at this; exact this.mono fun e w'' h => ⟨h.1, h.2.symm⟩
  have hHd : Hid (∀ W, Calls Tryd.prog 50 #[.string ⟨(n ++ (atsL al ++ [47, 62])).toArray⟩] W fun e w' => e = .returned (.int .i64 (n.length : Nat)) ∧ W = w') := Lib.hid fun W => by
    have := refHead_any (n ++ (atsL al ++ [47, 62])) W (by simp; omega)
    rw [hc1, head_app hna hc2] at this
    rw [hc1]; exact this
  have hAt := Lib.hid (refAttributes_any al w hea ha8)
  have d1 : (Pc.emp n al).text.drop 1 = n ++ (atsL al ++ [47, 62]) := by simp [Pc.text]
  have x1 : (ByteArray.mk (Pc.emp n al).text.toArray).extract 1 (1 + n.length) = ⟨n.toArray⟩ := by
    have := ext_mid [60] n (atsL al ++ [47, 62])
    rw [show [60] ++ (n ++ (atsL al ++ [47, 62])) = (Pc.emp n al).text by simp [Pc.text]] at this
    exact this
  have lT : (Pc.emp n al).text.length = n.length + ((atsL al).length + 1) + 2 := by simp [Pc.text]; omega
  have x2 : (ByteArray.mk (Pc.emp n al).text.toArray).extract (1 + n.length) (1 + n.length + ((atsL al).length + 1)) = ⟨(atsL al ++ [47]).toArray⟩ := by
    have := ext_mid ([60] ++ n) (atsL al ++ [47]) [62]
    rw [show ([60] ++ n) ++ ((atsL al ++ [47]) ++ [62]) = (Pc.emp n al).text by simp [Pc.text]] at this
    have e1 : ([60] ++ n).length = 1 + n.length := by simp; omega
    have e2 : (atsL al ++ [47]).length = (atsL al).length + 1 := by simp
    rw [e1, e2] at this
    exact this
  have lR : ((atsL al ++ [47]).length : Int) - 1 = ((atsL al).length : Int) := by simp
  have lR2 : (0 : Int) < ((atsL al ++ [47]).length : Int) := by simp
  have lR3 : ((atsL al).length : Int) < ((atsL al ++ [47]).length : Int) := by simp; omega
  have lR4 : (atsL al).length < (atsL al ++ [47]).length := by simp
  have lR5 : ((atsL al).length : Int) ≤ ((atsL al ++ [47]).length : Int) := by simp; omega
  have cR : ∀ h, ((((atsL al ++ [47])[(atsL al).length]'h).toNat : Int) == 47) = true := fun h => by rw [List.getElem_append_right (Nat.le_refl _)]; simp
  have tR : (atsL al ++ [47]).take (atsL al).length = atsL al := List.take_left
  generalize (Pc.emp n al).text = T at d1 x1 x2 lT ⊢
  generalize n ++ (atsL al ++ [47, 62]) = X at hHd d1
  generalize atsL al = R0 at hAt tR x2 lR lR2 lR3 lR4 lR5 cR lT hal
  generalize R0 ++ [47] = R at x2 lR lR2 lR3 lR4 lR5 cR tR
  replace cR := cR lR4
  have lR6 : ((R.length : Int) - 1).toNat = R0.length := by omega
  have lR7 : (0 : Int) ≤ (R.length : Int) - 1 := by omega
  have t1 : ((1 : Int) + (n.length : Int)).toNat = 1 + n.length := by omega
  have t2 : ((T.length : Int) - 1).toNat = 1 + n.length + (R0.length + 1) := by omega
  have t3 : (0 : Int) ≤ 1 + (n.length : Int) := by omega
  have t4 : (1 : Int) ≤ 1 + (n.length : Int) := by omega
  have t5 : 1 + (n.length : Int) ≤ (T.length : Int) := by omega
  have t6 : 1 + (n.length : Int) ≤ (T.length : Int) - 1 := by omega
  have t7 : (T.length : Int) - 1 ≤ (T.length : Int) := by omega
  have t8 : (1 : Int) ≤ (T.length : Int) := by omega
  have t9 : (0 : Int) ≤ (T.length : Int) - 1 := by omega
  have t10 : (T.length : Int) ≤ 100000 := by omega
  replace lT := Lib.hid lT
  replace hn := Lib.hid hn
  replace hna := Lib.hid hna
  replace hea := Lib.hid hea
  replace ha := Lib.hid ha
  replace hc1 := Lib.hid hc1
  replace hc2 := Lib.hid hc2
  replace hOw := Lib.hid hOw
  replace hOo := Lib.hid hOo
  replace hobj := Lib.hid hobj
  go_enter Tryd.func47, Tryd.ntmps47
  go_upto_region 8 with (first
    | (go_at_call 50; refine (hHd.out _).mono ?_; rintro e w1 ⟨rfl, rfl⟩)
    | (go_at_call 51; refine hAt.out.mono ?_; rintro e w1 ⟨sv, rfl, hA1, hB1⟩
       have hobj1 := (hB1.block B hBl).trans hobj.out
       obtain ⟨c0, c1, c2, c3, c4, c5, hfz, hBl1⟩ := pr_cells hobj1
       obtain ⟨sa, sc, rfl⟩ := owns_val hA1
       replace hobj1 := Lib.hid hobj1
       replace hA1 := Lib.hid hA1
       replace hB1 := Lib.hid hB1))
  go_cut [71] (fun v71 W => v71 = .bool false ∧ w1 = W)
  case first =>
    rcases hcond with h1 | ⟨h1, h2⟩
    · go_wp2_with (go_at_call 35; refine (hNm.out _).mono ?_; rintro e w2 ⟨rfl, rfl⟩)
      go_meet
      exact ⟨rfl, rfl⟩
    · go_wp2_with (go_at_call 35; refine (hNm.out _).mono ?_; rintro e w2 ⟨rfl, rfl⟩)
      go_meet
      exact ⟨rfl, rfl⟩
  obtain ⟨rfl, rfl⟩ := hcut
  clear hcond
  have hal9 : ¬ (8 : Int) < (al.length : Int) := by omega
  have hM8 : ¬ (8 : Int) ≤ (M : Int) := by omega
  go_wp2_with fail
  go_loopw [12] (fun s12 wr => ∃ i m : Nat, i ≤ al.length ∧ s12 = .int .i64 i ∧ wr = w1.drewN m) (fun s12 _ => al.length - (intOf s12).toNat)
  case atStart => exact ⟨0, 0, by omega, rfl, rfl⟩
  case round =>
    obtain ⟨i, m, hil, rfl, rfl⟩ := hrel
    by_cases hlt : i < al.length
    · obtain ⟨g, c9, hsl, hgb, hgl⟩ := owns_head hA1.out (by omega)
      obtain ⟨e1, -, e3⟩ := Value.slice.inj hsl
      subst e1 e3
      have hcells := Lib.hid (owns_at hA1.out rfl)
      have hii : (i : Int) < (al.length : Int) := by omega
      have hcj := Lib.hid (fun j (hj : j < al.length) => (by
        have := World.ownsRow.cells hA1.out (g := g) rfl (j * 2) _ (atCells_get al j hj).1
        rwa [Addr.add_lit, Nat.zero_add] at this : w1.cell? ⟨g, j * 2, none⟩ = some (.string ⟨(al[j]'hj).1.toArray⟩)))
      go_wp2_with fail
      go_loopw [13] (fun s13 wr => ∃ j k : Nat, j ≤ i ∧ s13 = .int .i64 j ∧ wr = w1.drewN k) (fun s13 _ => i - (intOf s13).toNat)
      case atStart => exact ⟨0, m, by omega, rfl, rfl⟩
      case round =>
        obtain ⟨j, k, hji, rfl, rfl⟩ := hrel
        by_cases hjl : j < i
        · have hjj : (j : Int) < (i : Int) := by omega
          have hjj2 : (j : Int) < (al.length : Int) := by omega
          have q1 := hcj.out j (by omega)
          have q2 := hcj.out i hlt
          have q3 := (hap.out i hlt).2 j (by omega) hjl
          generalize (al[j]'(by omega)).1 = x at q1 q3
          generalize (al[i]'hlt).1 = y at q2 q3
          have q4 : (x == y) = false := by simpa using q3
          clear q3
          go_wp2_with fail
          go_quiet (fail)
          go_wp2_with fail
          go_roundw
          case rel => exact ⟨j + 1, _, by omega, by go_num, rfl⟩
          case measure => simp [intOf]; omega
        · have hjj : ¬ (j : Int) < (i : Int) := by omega
          go_wp2_with fail
          go_roundw
          case rel => exact ⟨i + 1, _, by omega, by go_num, rfl⟩
          case measure => simp [intOf]; omega
    · have hii : ¬ (i : Int) < (al.length : Int) := by omega
      obtain ⟨j0, hj, hjz0, hjz1, hjz2⟩ := info_parts infoT
      have hgS : w.grownBy (w1.setCell ⟨B, 3, none⟩ (.bool true)) (some B) := grown_set _ (grown_of hB1.out)
      have hgW := grown_below hgS (belowN (below1 _ (.cells #[.int .u8 1, .string ⟨n.toArray⟩, .slice sa al.length sc, .string ⟨#[]⟩] 42)) m)
      have hoW := obj_alloc (o' := .cells #[.int .u8 1, .string ⟨n.toArray⟩, .slice sa al.length sc, .string ⟨#[]⟩] 42) (obj_set (i := 3) hobj1.out (.bool true))
      have hO1 : ((((w1.setCell ⟨B, 3, none⟩ (.bool true)).alloc (.cells #[.int .u8 1, .string ⟨n.toArray⟩, .slice sa al.length sc, .string ⟨#[]⟩] 42)).drewN m)).ownsRow w.heap.size 42 4 (.slice (some ⟨w1.heap.size, 0, none⟩) 1 1) 1 (tkCells [(⟨1, n, al, []⟩, .slice sa al.length sc)]) :=
        ⟨rfl, .inr ⟨w1.heap.size, 1, _, rfl, hB1.out.size, by have := bare_pb (w1.setCell ⟨B, 3, none⟩ (.bool true)) (.cells #[.int .u8 1, .string ⟨n.toArray⟩, .slice sa al.length sc, .string ⟨#[]⟩] 42); rw [World.size_setCell] at this; exact this, Nat.le_refl _, by unfold maxLen; decide, rfl, rfl⟩⟩
      have one2 := tkCells_one [(⟨2, n, [], []⟩, .slice none 0 0)] (by intro p hp; rw [List.mem_singleton.1 hp]; exact ⟨_, _, _, rfl⟩)
      have hnews := cells_new ((((w1.setCell ⟨B, 3, none⟩ (.bool true)).alloc (.cells #[.int .u8 1, .string ⟨n.toArray⟩, .slice sa al.length sc, .string ⟨#[]⟩] 42)).drewN m)) (tkCells [(⟨2, n, [], []⟩, .slice none 0 0)]) 42
      obtain ⟨va5, wa5, hrb, hOb, hgb, -, horF⟩ := run_append_own_at (P := Tryd.prog) _ w.heap.size 22 22 42 j0 _ 4 64 Tryd.underlying22 hj hjz0 hjz1 hjz2 rfl (by decide) _ _ _ (hO1.alloc (.cells (tkCells [(⟨2, n, [], []⟩, .slice none 0 0)]).toArray 42)) ⟨_, 0, none⟩ 1 1 (tkCells [(⟨2, n, [], []⟩, .slice none 0 0)]) rfl hnews one2 (by unfold maxLen; omega) (by omega) (by have := hgW.size; rw [World.size_alloc]; omega)
      have hlt5 := fun b (e : some b = (Value.slice (some ⟨w1.heap.size, 0, none⟩) 1 1).ownBlock) => (show b = w1.heap.size by injection e)
      have hgF : w.grownBy wa5 (some B) := grown_row (grown_below hgW (below1 _ (.cells (tkCells [(⟨2, n, [], []⟩, .slice none 0 0)]).toArray 42))) hgb (fun r hr => by rw [hlt5 r hr.symm]; exact hB1.out.size)
      have hszW : (((w1.setCell ⟨B, 3, none⟩ (.bool true)).alloc (.cells #[.int .u8 1, .string ⟨n.toArray⟩, .slice sa al.length sc, .string ⟨#[]⟩] 42)).drewN m).heap.size = w1.heap.size + 1 := by rw [size_drewN, World.size_alloc, World.size_setCell]
      have hold : ∀ b, b < w1.heap.size → b ≠ B → wa5.heap[b]? = w1.heap[b]? := fun b hb hne => by
        rw [hgb.block b (by rw [World.size_alloc, hszW]; omega) (fun e => by have := hlt5 b e; omega), Below.heap_alloc _ _ _ (by rw [hszW]; omega)]
        refine (Below.heap_alloc (w1.setCell ⟨B, 3, none⟩ (.bool true)) _ _ (by rw [World.size_setCell]; exact hb)).trans ?_
        exact Below.heap_setCell _ _ _ _ (by show b ≠ B; exact hne)
      have hoF : wa5.heap[B]? = _ := (hgb.block B (by rw [World.size_alloc, hszW]; omega) (fun e => by have := hlt5 B e; have := hB1.out.size; omega)).trans (obj_alloc hoW)
      have hsF : w1.heap.size ≤ wa5.heap.size := by have := hgb.size; rw [World.size_alloc, hszW] at this; omega
      have hTF : TkO w.heap.size wa5 va5 [⟨1, n, al, []⟩, ⟨2, n, [], []⟩] := ⟨[(⟨1, n, al, []⟩, .slice sa al.length sc), (⟨2, n, [], []⟩, .slice none 0 0)], rfl, hOb, (fun p hp => by
        simp only [List.mem_cons, List.not_mem_nil, or_false] at hp
        rcases hp with rfl | rfl
        · refine AtX.mono (ok := fun b => w.heap.size ≤ b ∧ b < w1.heap.size) (AtX.keep (AtX.lt2 (owns_at hA1.out rfl)) hsF (fun b hb1 hb2 => hold b hb1 (by omega))) (fun b hb => ⟨hb.1, fun e => ?_⟩)
          rcases horF with h | h
          · rw [h] at e; have := hlt5 b e; omega
          · rw [h, World.size_alloc, hszW] at e
            have : b = w1.heap.size + 1 + 1 := (by injection e)
            omega
        · exact ⟨none, 0, rfl, by simp, by simp, fun h => absurd h (by simp)⟩)⟩
      rw [alloc_drewN] at hrb
      simp only [size_drewN, World.size_alloc, World.size_setCell] at hrb
      obtain ⟨a95, c95, rfl⟩ := owns_val hOb
      replace hrb := Lib.hid hrb
      replace hTF := Lib.hid hTF
      replace hOb := Lib.hid hOb
      go_wp2_with (at_builtin; refine wpList_append_run _ wa5 rfl _ _ 22 rfl _ _ _ rfl rfl hrb.out ?_)
      go_ret2
      refine ⟨_, rfl, hTF.out, ⟨hBn, wv, .slice oa M oc, an, hoF, owns_grown hOw.out (Nat.le_refl _) hBn hgF, ?_⟩, hgF⟩
      have := owns_grown hOo.out (Nat.le_refl _) hBn hgF
      rw [hM.out] at this ⊢
      exact this
end Go.Proofs.YtadahlffdhgapaaDoor
