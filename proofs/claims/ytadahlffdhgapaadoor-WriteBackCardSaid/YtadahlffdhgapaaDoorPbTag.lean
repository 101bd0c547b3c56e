/-
  A tag is read (heliographref03.tag). Conditions: a right name and values; it can come here; the library's tables are as they were laid.
-/
import Derived.Test.YtadahlffdhgapaaDoorPbBegin
import Derived.Test.YtadahlffdhgapaaDoorPbText
namespace Go.Proofs.YtadahlffdhgapaaDoor
set_option linter.unusedVariables false
set_option linter.unusedSimpArgs false
open Go.RowKit Go.MapKept
attribute [local go_sem] mk_get ext0 extE
theorem tag_len {p : Pc} (h : p.good) (ht : p.isTxt = false) : 2 < p.text.length ∧ p.text.length ≤ 40000 := by
  have nl : ∀ {n : List UInt8}, nameP n = true → 0 < n.length ∧ n.length ≤ 32 := fun h => ⟨List.length_pos_iff.2 (name_bytes h).1, nameP_len h⟩
  cases p with
  | txt t => cases ht
  | beg n al =>
    have h1 := nl h.1
    have h2 := atsL_len (attrs_each [] al h.2)
    have h3 := attrs_len h.2
    simp only [Pc.text, List.length_append, List.length_cons, List.length_nil]
    omega
  | emp n al =>
    have h1 := nl h.1
    have h2 := atsL_len (attrs_each [] al h.2)
    have h3 := attrs_len h.2
    simp only [Pc.text, List.length_append, List.length_cons, List.length_nil]
    omega
  | fin n =>
    have h1 := nl h
    simp only [Pc.text, List.length_append, List.length_cons, List.length_nil]
    omega
theorem tag_sec {p : Pc} (h : p.good) (ht : p.isTxt = false) (hl : 1 < p.text.length) : if p matches .fin _ then p.text[1]'hl = 47 else p.text[1]'hl ≠ 33 ∧ p.text[1]'hl ≠ 63 ∧ p.text[1]'hl ≠ 47 := by
  have nl : ∀ {n : List UInt8}, nameP n = true → ∃ c r, n = c :: r ∧ nameC c = true := fun {n} h => by
    cases n with
    | nil => exact absurd rfl (name_bytes h).1
    | cons c r => exact ⟨c, r, rfl, name_all h c (by simp)⟩
  cases p with
  | txt t => cases ht
  | beg n al =>
    obtain ⟨c, r, rfl, hc⟩ := nl h.1
    have := nameC_ne hc
    exact ⟨this.2.2.2.2.2.2.2.1, this.2.2.2.2.2.2.2.2.1, this.2.2.2.2.2.2.1⟩
  | emp n al =>
    obtain ⟨c, r, rfl, hc⟩ := nl h.1
    have := nameC_ne hc
    exact ⟨this.2.2.2.2.2.2.2.1, this.2.2.2.2.2.2.2.2.1, this.2.2.2.2.2.2.1⟩
  | fin n => rfl
theorem u8ne {c k : UInt8} (h : c ≠ k) : ((c.toNat : Int) == (k.toNat : Int)) = false := by
  rw [beq_eq_false_iff_ne]; intro e; exact h (UInt8.toNat_inj.1 (by exact_mod_cast e))
theorem take5 {T : List UInt8} (hl : 1 < T.length) (h : T[1] ≠ 63) (h8 : 8 ≤ T.length) : (T.take 5 == [60, 63, 120, 109, 108]) = false := by
  match T, hl, h, h8 with
  | a :: b :: c :: d :: e :: r, _, h, _ =>
    simp only [List.getElem_cons_succ, List.getElem_cons_zero] at h
    simp [h]
set_option maxRecDepth 100000 in
set_option maxHeartbeats 4000000 in
theorem tag_begin (B : Nat) (T : List UInt8) (w : World) (wv ov : Value) (q : UInt8) (rt an : Bool) (hobj : w.heap[B]? = some (PrObj wv q ov rt an)) (h2 : 2 < T.length) (h4 : T.length ≤ 40000) (n33 : T[1] ≠ 33) (n63 : T[1] ≠ 63) (n47 : T[1] ≠ 47)
    (hU : U8T w) (hch : charsP T = true) (R : Value → World → Prop)
    (hC : ∀ w1, Below w.heap.size w w1 → Calls Tryd.prog 47 #[.pointer (some ⟨B, 0, none⟩), .string ⟨T.toArray⟩] w1 fun e w' => ∃ tv, e = .returned (.tuple #[tv, .int .i64 0]) ∧ R tv w') :
    Calls Tryd.prog 38 #[.pointer (some ⟨B, 0, none⟩), .string ⟨T.toArray⟩] w fun e w' => ∃ tv, e = .returned (.tuple #[tv, .int .i64 0]) ∧ R tv w' := by
  have hCh : Hid (Calls Tryd.prog 42 #[.string ⟨T.toArray⟩] w fun e w' => e = .returned (.bool true) ∧ Below w.heap.size w w') := Lib.hid (by
    have := refChars_any T w (by omega) hU
    rwa [hch] at this)
  have hBl := (Array.getElem?_eq_some_iff.1 hobj).1
  have e33 := u8ne n33
  have e63 := u8ne n63
  have e47 := u8ne n47
  have ht5 : 8 ≤ T.length → (T.take 5 == [60, 63, 120, 109, 108]) = false := take5 (by omega) n63
  simp only [show (((33 : UInt8).toNat : Nat) : Int) = 33 from rfl, show (((63 : UInt8).toNat : Nat) : Int) = 63 from rfl, show (((47 : UInt8).toNat : Nat) : Int) = 47 from rfl] at e33 e63 e47
  replace n33 := Lib.hid n33
  replace n63 := Lib.hid n63
  replace n47 := Lib.hid n47
  replace hch := Lib.hid hch
  replace hC := Lib.hid hC
  replace hobj := Lib.hid hobj
  replace ht5 := Lib.hid ht5
  have l2 : (2 : Int) < (T.length : Int) := by omega
  have l1 : 1 < T.length := by omega
  have l5 : 8 ≤ T.length → (5 : Int) ≤ (T.length : Int) := fun h => by omega
  replace l5 := Lib.hid l5
  go_enter Tryd.func38, Tryd.ntmps38
  go_upto_region 4 with (go_at_call 42; refine hCh.out.mono ?_; rintro e w1 ⟨rfl, hb1⟩
                         have hobj1 := (hb1.block B hBl).trans hobj.out
                         obtain ⟨c0, c1, c2, c3, c4, c5, hfz, hBl1⟩ := pr_cells hobj1
                         replace hobj1 := Lib.hid hobj1
                         replace hb1 := Lib.hid hb1)
  go_cut [13] (fun v13 W => v13 = .bool false ∧ w1 = W)
  case first =>
    cases an
    · by_cases h8 : 8 ≤ T.length
      · have h8b : decide (8 ≤ (T.length : Int)) = true := by rw [decide_eq_true_eq]; omega
        have g1 := ht5.out h8
        have g2 := l5.out h8
        go_wp2_with fail
        go_meet
        exact ⟨rfl, rfl⟩
      · have h8b : decide (8 ≤ (T.length : Int)) = false := by rw [decide_eq_false_iff_not]; omega
        go_wp2_with fail
        go_meet
        exact ⟨rfl, rfl⟩
    · go_wp2_with fail
      go_meet
      exact ⟨rfl, rfl⟩
  obtain ⟨rfl, rfl⟩ := hcut
  go_wp2_with (go_at_call 47; refine (hC.out _ hb1.out).mono ?_; rintro e w2 ⟨tv, rfl, hR⟩)
  go_ret2
  exact ⟨_, rfl, hR⟩
set_option maxRecDepth 100000 in
set_option maxHeartbeats 4000000 in
theorem tag_end (B : Nat) (T : List UInt8) (w : World) (wv ov : Value) (q : UInt8) (rt an : Bool) (hobj : w.heap[B]? = some (PrObj wv q ov rt an)) (h2 : 2 < T.length) (h4 : T.length ≤ 40000) (n47 : T[1] = 47)
    (hU : U8T w) (hch : charsP T = true) (R : Value → World → Prop)
    (hC : ∀ w1, Below w.heap.size w w1 → Calls Tryd.prog 46 #[.pointer (some ⟨B, 0, none⟩), .string ⟨T.toArray⟩] w1 fun e w' => ∃ tv, e = .returned (.tuple #[tv, .int .i64 0]) ∧ R tv w') :
    Calls Tryd.prog 38 #[.pointer (some ⟨B, 0, none⟩), .string ⟨T.toArray⟩] w fun e w' => ∃ tv, e = .returned (.tuple #[tv, .int .i64 0]) ∧ R tv w' := by
  have hCh : Hid (Calls Tryd.prog 42 #[.string ⟨T.toArray⟩] w fun e w' => e = .returned (.bool true) ∧ Below w.heap.size w w') := Lib.hid (by
    have := refChars_any T w (by omega) hU
    rwa [hch] at this)
  have hBl := (Array.getElem?_eq_some_iff.1 hobj).1
  have e33 : ((T[1].toNat : Int) == 33) = false := by rw [n47]; rfl
  have e63 : ((T[1].toNat : Int) == 63) = false := by rw [n47]; rfl
  have e47 : ((T[1].toNat : Int) == 47) = true := by rw [n47]; rfl
  have ht5 : 8 ≤ T.length → (T.take 5 == [60, 63, 120, 109, 108]) = false := take5 (by omega) (by rw [n47]; decide)
  replace n47 := Lib.hid n47
  replace hch := Lib.hid hch
  replace hC := Lib.hid hC
  replace hobj := Lib.hid hobj
  replace ht5 := Lib.hid ht5
  have l2 : (2 : Int) < (T.length : Int) := by omega
  have l1 : 1 < T.length := by omega
  have l5 : 8 ≤ T.length → (5 : Int) ≤ (T.length : Int) := fun h => by omega
  replace l5 := Lib.hid l5
  go_enter Tryd.func38, Tryd.ntmps38
  go_upto_region 4 with (go_at_call 42; refine hCh.out.mono ?_; rintro e w1 ⟨rfl, hb1⟩
                         have hobj1 := (hb1.block B hBl).trans hobj.out
                         obtain ⟨c0, c1, c2, c3, c4, c5, hfz, hBl1⟩ := pr_cells hobj1
                         replace hobj1 := Lib.hid hobj1
                         replace hb1 := Lib.hid hb1)
  go_cut [13] (fun v13 W => v13 = .bool false ∧ w1 = W)
  case first =>
    cases an
    · by_cases h8 : 8 ≤ T.length
      · have h8b : decide (8 ≤ (T.length : Int)) = true := by rw [decide_eq_true_eq]; omega
        have g1 := ht5.out h8
        have g2 := l5.out h8
        go_wp2_with fail
        go_meet
        exact ⟨rfl, rfl⟩
      · have h8b : decide (8 ≤ (T.length : Int)) = false := by rw [decide_eq_false_iff_not]; omega
        go_wp2_with fail
        go_meet
        exact ⟨rfl, rfl⟩
    · go_wp2_with fail
      go_meet
      exact ⟨rfl, rfl⟩
  obtain ⟨rfl, rfl⟩ := hcut
  go_wp2_with (go_at_call 46; refine (hC.out _ hb1.out).mono ?_; rintro e w2 ⟨tv, rfl, hR⟩)
  go_ret2
  exact ⟨_, rfl, hR⟩
/-- a tag -/
theorem refTag_any (n0 B : Nat) (p : Pc) (op' : List (List UInt8)) (rt' : Bool) (S : Ps) (w : World) (hP : PsAt n0 B w S) (h0 : n0 ≤ w.heap.size) (hg : p.good) (ht : p.isTxt = false) (hR : TagR S.op S.rt op' rt' p) (hU : U8T w) :
    Calls Tryd.prog 38 #[.pointer (some ⟨B, 0, none⟩), .string ⟨p.text.toArray⟩] w fun e w' => ∃ tv, e = .returned (.tuple #[tv, .int .i64 0]) ∧ TkO w.heap.size w' tv p.toks ∧ PsAt n0 B w' ⟨S.w, S.q, op', rt'⟩ ∧ w.grownBy w' (some B) := by
  obtain ⟨l1, l2⟩ := tag_len hg ht
  have hs := tag_sec hg ht (by omega)
  have hch := (body_facts hg ht).2.2
  have hP' := hP
  obtain ⟨hBn, wv, ov, an, hobj, -, -⟩ := hP'
  have fin : ∀ {w1 w' : World} {tv : Value} {tk : List Tk}, Below w.heap.size w w1 → TkO w1.heap.size w' tv tk ∧ PsAt n0 B w' ⟨S.w, S.q, op', rt'⟩ ∧ w1.grownBy w' (some B) → TkO w.heap.size w' tv tk ∧ PsAt n0 B w' ⟨S.w, S.q, op', rt'⟩ ∧ w.grownBy w' (some B) :=
    fun hb ⟨h1, h2, h3⟩ => ⟨h1.mono hb.size, h2, grown_trans (grown_of hb) h3⟩
  cases p with
  | txt t => cases ht
  | beg n al =>
    obtain ⟨r1, r2, rfl, rfl⟩ := hR
    exact tag_begin B _ w wv ov S.q S.rt an hobj l1 l2 hs.1 hs.2.1 hs.2.2 hU hch _ fun w1 hb => (refBegin_beg n0 B n al S w1 (hP.below hb) (Nat.le_trans h0 hb.size) hg.1 hg.2 r1 r2).mono fun e w' ⟨tv, he, h⟩ => ⟨tv, he, fin hb h⟩
  | emp n al =>
    obtain ⟨r1, r2, rfl, rfl⟩ := hR
    exact tag_begin B _ w wv ov S.q S.rt an hobj l1 l2 hs.1 hs.2.1 hs.2.2 hU hch _ fun w1 hb => (refBegin_emp n0 B n al S w1 (hP.below hb) (Nat.le_trans h0 hb.size) hg.1 hg.2 r1 r2).mono fun e w' ⟨tv, he, h⟩ => ⟨tv, he, fin hb h⟩
  | fin n =>
    obtain ⟨r1, r2, rfl⟩ := hR
    exact tag_end B _ w wv ov S.q S.rt an hobj l1 l2 hs hU hch _ fun w1 hb => (refEnd_any n0 B n op' S w1 (hP.below hb) (Nat.le_trans h0 hb.size) hg r1 r2).mono fun e w' ⟨tv, he, h⟩ => ⟨tv, he, fin hb h⟩
end Go.Proofs.YtadahlffdhgapaaDoor
