/-
  An ending is read (heliographref03.end). Conditions: a right name; it is open.
-/
import Derived.Test.YtadahlffdhgapaaDoorPbMem
import Derived.Deep.QuietTactic
import Derived.BigQuiet
import Derived.Deep.RegionLaw
namespace Go.Proofs.YtadahlffdhgapaaDoor
set_option linter.unusedVariables false
set_option linter.unusedSimpArgs false
open Go.RowKit Go.MapKept
attribute [local go_sem] mk_get ext0 extE alloc_drewN setCell_drewN
theorem name_cell {w : World} {n0 g c N : Nat} {op : List (List UInt8)} (h : w.ownsRow n0 9 1 (.slice (some ⟨g, 0, none⟩) N c) N (nameCells op)) (i : Nat) (hi : i < op.length) : w.cell? ⟨g, i, none⟩ = some (.string ⟨(op[i]'hi).toArray⟩) := by
  have := World.ownsRow.cells h (g := g) rfl i (.string ⟨(op[i]'hi).toArray⟩) (by simp [nameCells, hi])
  rwa [Addr.add_lit, Nat.zero_add] at this
theorem ext_mid (a b r : List UInt8) : (ByteArray.mk (a ++ (b ++ r)).toArray).extract a.length (a.length + b.length) = ⟨b.toArray⟩ := by
  rw [ext_pre _ _ _ (by simp), List.drop_left, List.take_left]
set_option maxRecDepth 100000 in
set_option maxHeartbeats 4000000 in
theorem refEnd_any (n0 B : Nat) (n : List UInt8) (op : List (List UInt8)) (S : Ps) (w : World) (hP : PsAt n0 B w S) (h0 : n0 ≤ w.heap.size) (hn : nameP n = true) (hop : S.op = op ++ [n]) (h8 : op.length < 8) :
    Calls Tryd.prog 46 #[.pointer (some ⟨B, 0, none⟩), .string ⟨(Pc.fin n).text.toArray⟩] w fun e w' => ∃ tv, e = .returned (.tuple #[tv, .int .i64 0]) ∧ TkO w.heap.size w' tv (Pc.fin n).toks ∧ PsAt n0 B w' ⟨S.w, S.q, op, S.rt⟩ ∧ w.grownBy w' (some B) := by
  obtain ⟨hBn, wv, ov, an, hobj, hOw, hOo⟩ := hP
  obtain ⟨c0, c1, c2, c3, c4, c5, hf, hBl⟩ := pr_cells hobj
  rw [hop] at hOo
  obtain ⟨g, cp, rfl, hgb, hgl⟩ := owns_head hOo (by simp)
  have hL : (op ++ [n]).length = op.length + 1 := by simp
  have hlast := name_cell hOo op.length (by simp)
  rw [List.getElem_append_right (Nat.le_refl _)] at hlast
  simp only [Nat.sub_self, List.getElem_cons_zero] at hlast
  have hhead := owns_head_of hOo (m := op.length) (by simp) (by simp)
  rw [Nat.mul_one, show (nameCells (op ++ [n])).take op.length = nameCells op by simp [nameCells]] at hhead
  obtain ⟨i0, hi, hz0, hz1, hz2⟩ := info_parts infoS
  have hcp := Lib.hid (fun (W : World) (hW : W.ownsRow n0 9 1 (.slice (some ⟨g, 0, none⟩) op.length cp) op.length (nameCells op)) => row_copy (P := Tryd.prog) W n0 55 9 i0 _ 1 16 Tryd.underlying55 hi hz0 hz1 hz2 rfl (by decide) _ _ _ hW (nameCells_one op) (by unfold maxLen; omega) (by omega))
  rw [hL] at hOo c2 hobj
  have hnl := nameP_len hn
  have hNm : Hid (∀ W, Calls Tryd.prog 35 #[.string ⟨n.toArray⟩] W fun e w' => e = .returned (.bool true) ∧ w' = W) := Lib.hid fun W => by have := refName_any n W (by omega); rw [hn] at this; exact this.mono fun e w'' h => ⟨h.1, h.2.symm⟩
  have hSp : Hid (∀ W, Calls Tryd.prog 44 #[.string ByteArray.empty] W fun e w' => e = .returned (.bool true) ∧ w' = W) := Lib.hid fun W => (refSpace_any [] W (by simp)).mono fun e w'' h => ⟨h.1, h.2.symm⟩
  have hna := name_all hn
  have hHd : Hid (∀ W, Calls Tryd.prog 50 #[.string ⟨(n ++ [62]).toArray⟩] W fun e w' => e = .returned (.int .i64 (n.length : Nat)) ∧ W = w') := Lib.hid fun W => by
    have := refHead_any (n ++ [62]) W (by simp; omega)
    rwa [head_app hna (by decide)] at this
  have d2 : (Pc.fin n).text.drop 2 = n ++ [62] := rfl
  have x2 : (ByteArray.mk (Pc.fin n).text.toArray).extract 2 (2 + n.length) = ⟨n.toArray⟩ := ext_mid [60, 47] n [62]
  have lT : (Pc.fin n).text.length = n.length + 3 := by simp [Pc.text]
  have x3 : (ByteArray.mk (Pc.fin n).text.toArray).extract (2 + n.length) (2 + n.length) = ⟨#[]⟩ := by
    have := ext_pre (Pc.fin n).text (2 + n.length) 0 (by omega)
    simpa using this
  generalize (Pc.fin n).text = T at d2 x2 x3 lT ⊢
  generalize n ++ [62] = X at hHd d2
  have t1 : ((2 : Int) + (n.length : Int)).toNat = 2 + n.length := by omega
  have t2 : ((T.length : Int) - 1).toNat = 2 + n.length := by omega
  have t3 : (0 : Int) ≤ 2 + (n.length : Int) := by omega
  have t4 : (2 : Int) ≤ 2 + (n.length : Int) := by omega
  have t5 : 2 + (n.length : Int) ≤ (T.length : Int) := by omega
  have t6 : 2 + (n.length : Int) ≤ (T.length : Int) - 1 := by omega
  have t7 : (T.length : Int) - 1 ≤ (T.length : Int) := by omega
  have t8 : (2 : Int) ≤ (T.length : Int) := by omega
  have t9 : (0 : Int) ≤ (T.length : Int) - 1 := by omega
  have t10 : (T.length : Int) ≤ 100 := by omega
  replace lT := Lib.hid lT
  replace hop := Lib.hid hop
  replace hn := Lib.hid hn
  replace hna := Lib.hid hna
  replace hL := Lib.hid hL
  go_enter Tryd.func46, Tryd.ntmps46
  go_wp2_with (first
    | (go_at_call 50; refine (hHd.out _).mono ?_; rintro e w1 ⟨rfl, rfl⟩))
  have hb1 : (((op.length : Int) + 1) == 0) = false := by rw [beq_eq_false_iff_ne]; omega
  have hb2 : IntKind.i64.wrap ((op.length : Int) + 1 - 1) = (op.length : Int) := by rw [IntKind.wrap_i64]; omega
  have hnn : (n != n) = false := by simp
  go_quiet (first
    | (go_at_call 35; exact Calls.quiet_of_same (hNm.out _))
    | (go_at_call 44; exact Calls.quiet_of_same (hSp.out _)))
  go_wp2_with fail
  obtain ⟨va, wa, hra, hOa, hBa⟩ := hcp.out (w.drewN (nq + 1)) hhead
  rw [alloc_drewN, size_drewN] at hra
  obtain ⟨a9, c9, rfl⟩ := owns_val hOa
  replace hOa := Lib.hid hOa
  replace hBa := Lib.hid hBa
  have hcp1 := owns_le hOo
  have hcp2 : (op.length : Int) ≤ (cp : Int) := by omega
  have hw0 : IntKind.i64.wrap (op.length : Int) = (op.length : Int) := by rw [IntKind.wrap_i64]; omega
  have hl0 : (0 : Int) ≤ (op.length : Int) := by omega
  clear hb2
  have fB : wa.frozen? ⟨B, 2, none⟩ = false := (hBa.out.frozen (p := ⟨B, 2, none⟩) hBl).trans (hf 2)
  have cB : wa.cell? ⟨B, 2, none⟩ = some (.slice (some ⟨g, 0, none⟩) (op.length + 1) cp) := (hBa.out.cell (p := ⟨B, 2, none⟩) hBl).trans c2
  have cAl : 0 ≤ B := Nat.zero_le _
  replace hra := Lib.hid hra
  go_region_law (refine step_app_run rfl (.tmp 56) (.tmp 67) 55 rfl (.slice (some ⟨w.heap.size, 0, none⟩) 0 0) (.slice (some ⟨g, 0, none⟩) op.length cp) (.slice a9 op.length c9) wa (by simp [Act.eval, Act.put]) (by simp [Act.eval, Act.put]) hra.out ?_)
  all_goals
    go_wp2_with fail
    go_ret2
    have hg1 : w.grownBy (wa.setCell ⟨B, 2, none⟩ (.slice a9 op.length c9)) (some B) := grown_set _ (grown_of ⟨hBa.out.os, hBa.out.tape, hBa.out.output, hBa.out.size, hBa.out.block⟩)
    have hg2 := grown_below hg1 (below1 _ (.cells #[.int .u8 2, .string ⟨n.toArray⟩, .slice none 0 0, .string ⟨#[]⟩] 42))
    refine ⟨_, rfl, ?_, ⟨hBn, wv, .slice a9 op.length c9, an, ?_, owns_grown hOw (Nat.le_refl _) hBn hg2, ?_⟩, hg2⟩
    · have := tkF_new 2 n [] hg1.size (atx_nil _ _)
      rw [World.size_setCell] at this
      exact this
    · have := obj_alloc (o' := .cells #[.int .u8 2, .string ⟨n.toArray⟩, .slice none 0 0, .string ⟨#[]⟩] 42) (obj_set (i := 2) ((hBa.out.block B hBl).trans hobj) (.slice a9 op.length c9))
      exact this
    · refine owns_grown (w := wa) hOa.out h0 hBn ?_
      exact grown_below (grown_set _ (grown_of (Below.refl _ _))) (below1 _ _)
end Go.Proofs.YtadahlffdhgapaaDoor
