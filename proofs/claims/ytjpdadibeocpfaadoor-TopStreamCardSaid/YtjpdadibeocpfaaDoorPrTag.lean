/-
  An end tag is read (xml.tag). Conditions: the parser lies at B, the tokens' variable at O; the innermost open name is the tag's.
-/
import Derived.Test.YtjpdadibeocpfaaDoorPrMa
namespace Go.Proofs.YtjpdadibeocpfaaDoor
set_option linter.unusedVariables false
set_option linter.unusedSimpArgs false
open Go.RowKit Go.MapKept Go.Proofs
variable {K : Nat → Prop}
theorem name_cell {w : World} {n0 g c N : Nat} {op : List (List UInt8)} (h : w.ownsRow n0 9 1 (.slice (some ⟨g, 0, none⟩) N c) N (nameCells op)) (i : Nat) (hi : i < op.length) : w.cell? ⟨g, i, none⟩ = some (.string ⟨(op[i]'hi).toArray⟩) := by
  have := World.ownsRow.cells h (g := g) rfl i (.string ⟨(op[i]'hi).toArray⟩) (by simp [nameCells, hi])
  rwa [Addr.add_lit, Nat.zero_add] at this
theorem cutp_no (c d : UInt8) (r q : List UInt8) (W : World) (h : c ≠ d) : Calls Tryd.prog 50 #[.string ⟨(c :: r).toArray⟩, .string ⟨(d :: q).toArray⟩] W fun e w' => e = .returned (.tuple #[.string ⟨(c :: r).toArray⟩, .bool false]) ∧ W = w' := by
  have hp : Lib.hasPrefix (c :: r) (d :: q) = false := by
    show ((d == c) && q.isPrefixOf r) = false
    rw [beq_eq_false_iff_ne.2 (fun e => h e.symm)]; rfl
  refine (Tryd.strings_CutPrefix ⟨(c :: r).toArray⟩ ⟨(d :: q).toArray⟩ W).mono ?_
  rintro e w' ⟨rfl, h⟩
  refine ⟨ret_strb ?_ hp, h.symm⟩
  show Lib.trimPrefix (c :: r) (d :: q) = c :: r
  unfold Lib.trimPrefix
  rw [hp]; rfl
theorem cutp_yes (c : UInt8) (r : List UInt8) (W : World) : Calls Tryd.prog 50 #[.string ⟨(c :: r).toArray⟩, .string ⟨#[c]⟩] W fun e w' => e = .returned (.tuple #[.string ⟨r.toArray⟩, .bool true]) ∧ W = w' := by
  have hp : Lib.hasPrefix (c :: r) [c] = true := by simp [Lib.hasPrefix]
  refine (Tryd.strings_CutPrefix ⟨(c :: r).toArray⟩ ⟨#[c]⟩ W).mono ?_
  rintro e w' ⟨rfl, h⟩
  refine ⟨ret_strb ?_ hp, h.symm⟩
  show Lib.trimPrefix (c :: r) [c] = r
  unfold Lib.trimPrefix
  rw [hp]; rfl
theorem hasp_no (c d : UInt8) (r : List UInt8) (W : World) (h : c ≠ d) : Calls Tryd.prog 46 #[.string ⟨(c :: r).toArray⟩, .string ⟨#[d]⟩] W fun e w' => e = .returned (.bool false) ∧ W = w' := by
  refine (Tryd.strings_HasPrefix ⟨(c :: r).toArray⟩ ⟨#[d]⟩ W).mono ?_
  rintro e w' ⟨rfl, h'⟩
  exact ⟨ret_bool (by show ((d == c) && List.isPrefixOf [] r) = false; rw [beq_eq_false_iff_ne.2 (fun e => h e.symm)]; rfl), h'.symm⟩
theorem xname_all (n : List UInt8) (W : World) (hn : nameP n = true) :
    Calls Tryd.prog 53 #[.string ⟨n.toArray⟩] W fun e w' => e = .returned (.tuple #[.string ⟨n.toArray⟩, .string ⟨#[]⟩]) ∧ ∃ k, w' = W.drewN k := by
  have hh : headN nameC n = n.length := head_end (f := nameC) (Nat.le_refl _) (fun i hi _ => name_all hn _ (List.getElem_mem hi)) (fun h => absurd h (by omega))
  have hl := nameP_len hn
  have := xname_any n W (by omega) (by rw [hh, List.take_length]; exact hn)
  rw [hh, List.take_length, List.drop_length] at this
  exact this
set_option maxRecDepth 100000 in
set_option maxHeartbeats 8000000 in
theorem xtag_fin (n0 n1 B O : Nat) (n : List UInt8) (op : List (List UInt8)) (S : Ps) (l : List Tk) (w : World) (hP : PsAt K n0 B w S) (hO : OutAt n1 O w l) (hne : O ≠ B) (h0 : n1 ≤ w.heap.size) (h01 : n0 ≤ n1) (hn : nameP n = true) (hop : S.op = op ++ [n]) (h8 : op.length < 8) (hl : l.length ≤ 900) :
    Calls Tryd.prog 38 #[.pointer (some ⟨B, 0, none⟩), .string ⟨(60 :: (47 :: n ++ [62])).toArray⟩, .func (.func 18) #[] #[.pointer (some ⟨O, 0, none⟩)]] w fun e w' => e = .returned (.tuple #[]) ∧ PsAt K n0 B w' ⟨S.w, S.q, op, S.rt⟩ ∧ OutAt n1 O w' (l ++ [⟨2, n, [], []⟩]) ∧ Step2 n1 B O w w' := by
  have hnl := nameP_len hn
  have hg : (Pc.fin n).good := hn
  have hch : charsP (60 :: (47 :: n ++ [62])) = true := (body_facts hg rfl).2.2
  have hCh : Hid (Calls Tryd.prog 31 #[.string ⟨(60 :: (47 :: n ++ [62])).toArray⟩] w fun e w' => e = .returned (.bool true) ∧ Below w.heap.size w w') := Lib.hid (by
    have := textChars_any (60 :: (47 :: n ++ [62])) w (by simp; omega)
    rwa [hch] at this)
  have cA := Lib.hid (fun W => cutp_no 47 63 n [120, 109, 108] W (by decide))
  have cB := Lib.hid (fun W => hasp_no 47 33 n W (by decide))
  have cC := Lib.hid (fun W => hasp_no 47 63 n W (by decide))
  have cD := Lib.hid (fun W => cutp_yes 47 n W)
  have cN := Lib.hid (fun W => xname_all n W hn)
  have cS := Lib.hid (fun W => textSpace_any [] W (by simp))
  have x1 : (ByteArray.mk (60 :: (47 :: n ++ [62])).toArray).extract 1 ((60 :: (47 :: n ++ [62])).length - 1) = ⟨(47 :: n).toArray⟩ := by
    rw [ByteArray.extract_mk]; simp
  have hT2 : 3 ≤ (60 :: (47 :: n ++ [62])).length ∧ (60 :: (47 :: n ++ [62])).length ≤ 100 := by simp; omega
  replace hch := Lib.hid hch
  generalize 60 :: (47 :: n ++ [62]) = T at hCh x1 hT2 ⊢
  generalize 47 :: n = I at cA cB cC cD x1 ⊢
  obtain ⟨hT3, hT4⟩ := hT2
  have q2 : ((T.length : Int) - 1).toNat = T.length - 1 := by omega
  have q3 : (1 : Int) ≤ (T.length : Int) - 1 := by omega
  have q4 : (T.length : Int) - 1 ≤ (T.length : Int) := by omega
  have q5 : (0 : Int) ≤ (T.length : Int) - 1 := by omega
  replace hP := Lib.hid hP
  replace hO := Lib.hid hO
  replace hop := Lib.hid hop
  go_enter Tryd.func38, Tryd.ntmps38
  go_upto_region 8 with (first
    | (go_at_call 31; refine hCh.out.mono ?_; rintro e w1 ⟨rfl, hb1⟩; replace hb1 := Lib.hid hb1)
    | (go_at_call 37; refine (must_ok 6 _).mono ?_; rintro e w3 ⟨rfl, rfl⟩; have mM := Lib.hid True.intro)
    | (go_at_call 37; refine (must_ok 7 _).mono ?_; rintro e w3 ⟨rfl, rfl⟩)
    | (have mA := mB; clear mA; go_at_call 50; refine (cD.out _).mono ?_; rintro e w4 ⟨rfl, rfl⟩)
    | (go_at_call 50; refine (cA.out _).mono ?_; rintro e w4 ⟨rfl, rfl⟩)
    | (have mA := mC; clear mA; go_at_call 46; refine (cC.out _).mono ?_; rintro e w4 ⟨rfl, rfl⟩; have mB := Lib.hid True.intro)
    | (go_at_call 46; refine (cB.out _).mono ?_; rintro e w4 ⟨rfl, rfl⟩; have mC := Lib.hid True.intro)
    | (go_at_call 53; refine (cN.out _).mono ?_; rintro e w5 ⟨rfl, k5, rfl⟩))
  have hP5 : PsAt K n0 B (w1.drewN k5) S := hP.out.below (belowN hb1.out k5)
  have hO5 : OutAt n1 O (w1.drewN k5) l := hO.out.below (belowN hb1.out k5)
  have hB5 := Lib.hid (belowN hb1.out k5)
  generalize w1.drewN k5 = w5 at hP5 hO5 hB5 ⊢
  clear hb1 hCh cA cB cC cD cN x1 hP hO
  obtain ⟨Sw, Sq, So, Sr⟩ := S
  have hop' : So = op ++ [n] := hop.out
  subst hop'
  obtain ⟨hBn, wv, ov, an, hobj, hOw, hOo, hKw⟩ := hP5
  obtain ⟨g, cp, rfl, hcp⟩ : ∃ g cp, ov = .slice (some ⟨g, 0, none⟩) (op.length + 1) cp ∧ op.length + 1 ≤ cp := by
    rcases hOo.2 with ⟨_, h0⟩ | ⟨g, cap, cur, hv, hb, hg', k1, k2, k3, k4⟩
    · simp at h0
    · exact ⟨g, cap, by rw [hv]; simp, by simp at k1 k2 k3; omega⟩
  have hcpI : (op.length : Int) ≤ (cp : Int) := by omega
  have hcp0 : (0 : Int) ≤ (op.length : Int) := by omega
  have hOo' : w5.ownsRow n0 9 1 (.slice (some ⟨g, 0, none⟩) (op.length + 1) cp) (op.length + 1) (nameCells (op ++ [n])) := by simpa using hOo
  obtain ⟨c0, c1, c2, c3, c4, c5, hfz, hBl⟩ := pr_cells hobj
  have hgl := (hOo'.lt g rfl)
  have hnc : w5.cell? ⟨g, op.length, none⟩ = some (.string ⟨n.toArray⟩) := by
    have := name_cell hOo' op.length (by simp)
    simpa using this
  have hnew : w5.ownsRow n0 9 1 (.slice (some ⟨g, 0, none⟩) op.length cp) op.length (nameCells op) := by
    have := owns_head_of hOo' (by omega) (m := op.length) (by omega)
    have e : (nameCells (op ++ [n])).take (op.length * 1) = nameCells op := by unfold nameCells; rw [List.map_append, Nat.mul_one]; exact List.take_left' (by simp)
    rwa [e] at this
  have hm1 : (((op.length : Nat) : Int) + 1 - 1) = (op.length : Int) := by omega
  have hPs : Hid (PsAt K n0 B w5 ⟨Sw, Sq, op ++ [n], Sr⟩) := Lib.hid ⟨hBn, wv, _, an, hobj, hOw, hOo, hKw⟩
  replace hKw := Lib.hid hKw
  replace hobj := Lib.hid hobj
  replace hOw := Lib.hid hOw
  replace hOo := Lib.hid hOo
  replace hOo' := Lib.hid hOo'
  replace hnew := Lib.hid hnew
  replace hO5 := Lib.hid hO5
  go_wp2_with (first
    | (go_at_call 49; refine (cS.out _).mono ?_; rintro e w6 ⟨rfl, hb6⟩
       rw [show (Lib.trimS [] [32, 9, 10, 13]).isEmpty = true from rfl]
       have d2 : w6.cell? ⟨B, 2, none⟩ = some (.slice (some ⟨g, 0, none⟩) (op.length + 1) cp) := ((bat hb6 B hBl).1 2).trans c2
       have dn : w6.cell? ⟨g, op.length, none⟩ = some (.string ⟨n.toArray⟩) := ((bat hb6 g hgl.2).1 op.length).trans hnc
       have df := (bat hb6 B hBl).2
       replace hb6 := Lib.hid hb6)
    | (go_at_call 37; refine (must_ok 6 _).mono ?_; rintro e w7 ⟨rfl, rfl⟩)
    | (go_at_call 18
       go_loud
        (have hobj6 := (hb6.out.block B hBl).trans hobj.out
         have hG : w5.grownBy (w6.setCell ⟨B, 2, none⟩ (.slice (some ⟨g, 0, none⟩) op.length cp)) (some B) := grown_set _ (grown_of hb6.out)
         have hP7 : PsAt K n0 B (w6.setCell ⟨B, 2, none⟩ (.slice (some ⟨g, 0, none⟩) op.length cp)) ⟨Sw, Sq, op, Sr⟩ := ⟨hBn, wv, _, an, obj_set (i := 2) hobj6 _, owns_grown hOw.out (Nat.le_refl _) hBn hG, owns_grown hnew.out (Nat.le_refl _) hBn hG, hKw.out⟩
         have hO7 : OutAt n1 O (w6.setCell ⟨B, 2, none⟩ (.slice (some ⟨g, 0, none⟩) op.length cp)) l := (hO5.out.below hb6.out).keep (by rw [World.size_setCell]; exact Nat.le_refl _) (fun k hk hk2 => Below.heap_setCell _ _ _ _ (by rcases hk2 with h | h <;> (simp; omega)))
         have hS7 : Step2 n1 B O w (w6.setCell ⟨B, 2, none⟩ (.slice (some ⟨g, 0, none⟩) op.length cp)) := (Step2.below (belowT hB5.out hb6.out)).trans (Step2.setB _)
         have hs6 := Nat.le_trans hB5.out.size hb6.out.size
         have hT7 := tkF_new (W := w6.setCell ⟨B, 2, none⟩ (.slice (some ⟨g, 0, none⟩) op.length cp)) 2 n [] (Nat.le_refl _) (atx_nil _ _) (atT_nil _ _)
         have hR7 := hO7.rows (.cells #[.int .u8 2, .string ⟨n.toArray⟩, .slice none 0 0, .string ⟨#[]⟩] 35)
         simp only [World.size_setCell] at hT7 hR7
         refine (tell_any n0 n1 B O w6.heap.size ⟨Sw, Sq, op, Sr⟩ l [⟨2, n, [], []⟩] _ _ (hP7.below (below1 _ _)) (hO7.below (below1 _ _)) hne (by simp only [World.size_alloc, World.size_setCell]; omega) h01 hT7 (by omega) hR7 (by simp; omega)).mono ?_
         rintro e w8 ⟨rfl, hP8, hO8, hS8⟩
         have hS9 := Lib.hid ((hS7.trans (Step2.below (below1 _ _))).trans hS8)
         replace hP8 := Lib.hid hP8
         replace hO8 := Lib.hid hO8
         clear hobj6 hG hP7 hO7 hS7 hT7 hR7 hS8)))
  exact bodyPost_ret (results_none rfl _ _ _) rfl ⟨rfl, hP8.out, hO8.out, hS9.out⟩
end Go.Proofs.YtjpdadibeocpfaaDoor
