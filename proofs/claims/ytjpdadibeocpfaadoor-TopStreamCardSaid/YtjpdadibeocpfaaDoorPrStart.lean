/-
  A tag is read (xml.tag), whichever it is. Conditions: the parser lies at B, the tokens' variable at O; a right name, right attributes; it can come here.
-/
import Derived.Test.YtjpdadibeocpfaaDoorPrBegin
namespace Go.Proofs.YtjpdadibeocpfaaDoor
set_option linter.unusedVariables false
set_option linter.unusedSimpArgs false
open Go.RowKit Go.MapKept Go.Proofs
variable {K : Nat → Prop}
theorem xbegin_beg (n0 n1 B O : Nat) (n : List UInt8) (al : Ats) (S : Ps) (l : List Tk) (w : World) (hP : PsAt K n0 B w S) (hO : OutAt n1 O w l) (hne : O ≠ B) (h0 : n1 ≤ w.heap.size) (h01 : n0 ≤ n1) (hn : nameP n = true) (ha : attrsP [] al = true) (h8 : S.op.length < 8) (hrt : S.op ≠ [] ∨ S.rt = false) (hl : l.length ≤ 900) :
    Calls Tryd.prog 54 #[.pointer (some ⟨B, 0, none⟩), .string ⟨(n ++ atsL al).toArray⟩, .func (.func 18) #[] #[.pointer (some ⟨O, 0, none⟩)]] w fun e w' => e = .returned (.tuple #[]) ∧ PsAt K n0 B w' ⟨S.w, S.q, S.op ++ [n], true⟩ ∧ OutAt n1 O w' (l ++ (Pc.beg n al).toks) ∧ Step2 n1 B O w w' := by
  have hnl := nameP_len hn
  have ha8 := xattrs_len ha
  have hal := atsL_len (attrs_each [] al ha)
  have hlen : (n ++ atsL al).length ≤ 140737488351232 := by rw [List.length_append]; omega
  exact xbegin_any false (n ++ atsL al) n0 n1 B O n al S l w hP hO hne h0 h01 hn ha h8 hrt hl (fun W => cutsuf_no n al W hn hlen)
theorem xbegin_emp (n0 n1 B O : Nat) (n : List UInt8) (al : Ats) (S : Ps) (l : List Tk) (w : World) (hP : PsAt K n0 B w S) (hO : OutAt n1 O w l) (hne : O ≠ B) (h0 : n1 ≤ w.heap.size) (h01 : n0 ≤ n1) (hn : nameP n = true) (ha : attrsP [] al = true) (h8 : S.op.length < 8) (hrt : S.op ≠ [] ∨ S.rt = false) (hl : l.length ≤ 900) :
    Calls Tryd.prog 54 #[.pointer (some ⟨B, 0, none⟩), .string ⟨(n ++ atsL al ++ [47]).toArray⟩, .func (.func 18) #[] #[.pointer (some ⟨O, 0, none⟩)]] w fun e w' => e = .returned (.tuple #[]) ∧ PsAt K n0 B w' ⟨S.w, S.q, S.op, true⟩ ∧ OutAt n1 O w' (l ++ (Pc.emp n al).toks) ∧ Step2 n1 B O w w' := by
  have hnl := nameP_len hn
  have ha8 := xattrs_len ha
  have hal := atsL_len (attrs_each [] al ha)
  have hlen : (n ++ atsL al ++ [47]).length ≤ 140737488351232 := by simp only [List.length_append, List.length_cons, List.length_nil]; omega
  have := xbegin_any true (n ++ atsL al ++ [47]) n0 n1 B O n al S l w hP hO hne h0 h01 hn ha h8 hrt hl (fun W => cutsuf_yes (n ++ atsL al) _ W rfl hlen)
  simpa [Pc.toks] using this
set_option maxRecDepth 100000 in
set_option maxHeartbeats 8000000 in
theorem xtag_start (c : UInt8) (r : List UInt8) (w : World) (pv tv : Value) (hc : nameC c = true) (hl : r.length ≤ 100000) (hch : charsP (60 :: (c :: r ++ [62])) = true) (R : World → Prop)
    (hC : ∀ w1, Below w.heap.size w w1 → Calls Tryd.prog 54 #[pv, .string ⟨(c :: r).toArray⟩, tv] w1 fun e w' => e = .returned (.tuple #[]) ∧ R w') :
    Calls Tryd.prog 38 #[pv, .string ⟨(60 :: (c :: r ++ [62])).toArray⟩, tv] w fun e w' => e = .returned (.tuple #[]) ∧ R w' := by
  have hCh : Hid (Calls Tryd.prog 31 #[.string ⟨(60 :: (c :: r ++ [62])).toArray⟩] w fun e w' => e = .returned (.bool true) ∧ Below w.heap.size w w') := Lib.hid (by
    have := textChars_any (60 :: (c :: r ++ [62])) w (by simp; omega)
    rwa [hch] at this)
  obtain ⟨-, -, -, -, -, -, n47, n33, n63, -⟩ := nameC_ne hc
  have cA := Lib.hid (fun W => cutp_no c 63 r [120, 109, 108] W n63)
  have cB := Lib.hid (fun W => hasp_no c 33 r W n33)
  have cC := Lib.hid (fun W => hasp_no c 63 r W n63)
  have cD := Lib.hid (fun W => cutp_no c 47 r [] W n47)
  have x1 : (ByteArray.mk (60 :: (c :: r ++ [62])).toArray).extract 1 ((60 :: (c :: r ++ [62])).length - 1) = ⟨(c :: r).toArray⟩ := by
    rw [ByteArray.extract_mk]; simp
  have hT2 : 3 ≤ (60 :: (c :: r ++ [62])).length ∧ (60 :: (c :: r ++ [62])).length ≤ 200000 := by simp; omega
  replace hch := Lib.hid hch
  replace hC := Lib.hid hC
  clear hc n47 n33 n63
  generalize 60 :: (c :: r ++ [62]) = T at hCh x1 hT2 ⊢
  generalize c :: r = I at cA cB cC cD x1 hC
  obtain ⟨hT3, hT4⟩ := hT2
  have q2 : ((T.length : Int) - 1).toNat = T.length - 1 := by omega
  have q3 : (1 : Int) ≤ (T.length : Int) - 1 := by omega
  have q4 : (T.length : Int) - 1 ≤ (T.length : Int) := by omega
  have q5 : (0 : Int) ≤ (T.length : Int) - 1 := by omega
  go_enter Tryd.func38, Tryd.ntmps38
  go_wp2_with (first
    | (go_at_call 31; refine hCh.out.mono ?_; rintro e w1 ⟨rfl, hb1⟩; replace hb1 := Lib.hid hb1)
    | (go_at_call 37; refine (must_ok 6 _).mono ?_; rintro e w3 ⟨rfl, rfl⟩; have mM := Lib.hid True.intro)
    | (go_at_call 37; refine (must_ok 7 _).mono ?_; rintro e w3 ⟨rfl, rfl⟩)
    | (have mA := mB; clear mA; go_at_call 50; refine (cD.out _).mono ?_; rintro e w4 ⟨rfl, rfl⟩)
    | (go_at_call 50; refine (cA.out _).mono ?_; rintro e w4 ⟨rfl, rfl⟩)
    | (have mA := mC; clear mA; go_at_call 46; refine (cC.out _).mono ?_; rintro e w4 ⟨rfl, rfl⟩; have mB := Lib.hid True.intro)
    | (go_at_call 46; refine (cB.out _).mono ?_; rintro e w4 ⟨rfl, rfl⟩; have mC := Lib.hid True.intro)
    | (go_at_call 54; refine (hC.out _ hb1.out).mono ?_; rintro e w5 ⟨rfl, hR⟩))
  go_end0
  exact ⟨rfl, hR⟩
theorem toks_len2 (p : Pc) : p.toks.length ≤ 2 := by cases p <;> simp [Pc.toks]
/-- a tag -/
theorem xtag_any (n0 n1 B O : Nat) (p : Pc) (op' : List (List UInt8)) (rt' : Bool) (S : Ps) (l : List Tk) (w : World) (hP : PsAt K n0 B w S) (hO : OutAt n1 O w l) (hne : O ≠ B) (h0 : n1 ≤ w.heap.size) (h01 : n0 ≤ n1) (hg : p.good) (ht : p.isTxt = false) (hR : TagR S.op S.rt op' rt' p) (hl : l.length ≤ 900) :
    Calls Tryd.prog 38 #[.pointer (some ⟨B, 0, none⟩), .string ⟨p.text.toArray⟩, .func (.func 18) #[] #[.pointer (some ⟨O, 0, none⟩)]] w fun e w' => e = .returned (.tuple #[]) ∧ PsAt K n0 B w' ⟨S.w, S.q, op', rt'⟩ ∧ OutAt n1 O w' (l ++ p.toks) ∧ Step2 n1 B O w w' := by
  have hch := (body_facts hg ht).2.2
  have nl : ∀ {n : List UInt8}, nameP n = true → ∃ c r, n = c :: r ∧ nameC c = true := fun {n} h => by
    cases n with
    | nil => exact absurd rfl (name_bytes h).1
    | cons c r => exact ⟨c, r, rfl, name_all h c (by simp)⟩
  cases p with
  | txt t => cases ht
  | beg n al =>
    obtain ⟨r1, r2, rfl, rfl⟩ := hR
    obtain ⟨c, r, rfl, hc⟩ := nl hg.1
    have hnl := nameP_len hg.1
    have ha8 := xattrs_len hg.2
    have hal := atsL_len (attrs_each [] al hg.2)
    have e : (Pc.beg (c :: r) al).text = 60 :: (c :: (r ++ atsL al) ++ [62]) := by simp [Pc.text]
    rw [e] at hch ⊢
    refine xtag_start c (r ++ atsL al) w _ _ hc (by rw [List.length_append]; simp at hnl; omega) hch _ fun w1 hb => ?_
    exact (xbegin_beg n0 n1 B O (c :: r) al S l w1 (hP.below hb) (hO.below hb) hne (Nat.le_trans h0 hb.size) h01 hg.1 hg.2 r1 r2 hl).mono fun e w' ⟨he, h1, h2, h3⟩ => ⟨he, h1, h2, (Step2.below hb).trans h3⟩
  | emp n al =>
    obtain ⟨r1, r2, rfl, rfl⟩ := hR
    obtain ⟨c, r, rfl, hc⟩ := nl hg.1
    have hnl := nameP_len hg.1
    have ha8 := xattrs_len hg.2
    have hal := atsL_len (attrs_each [] al hg.2)
    have e : (Pc.emp (c :: r) al).text = 60 :: (c :: (r ++ atsL al ++ [47]) ++ [62]) := by simp [Pc.text]
    rw [e] at hch ⊢
    refine xtag_start c (r ++ atsL al ++ [47]) w _ _ hc (by simp only [List.length_append, List.length_cons, List.length_nil] at hnl ⊢; omega) hch _ fun w1 hb => ?_
    exact (xbegin_emp n0 n1 B O (c :: r) al S l w1 (hP.below hb) (hO.below hb) hne (Nat.le_trans h0 hb.size) h01 hg.1 hg.2 r1 r2 hl).mono fun e w' ⟨he, h1, h2, h3⟩ => ⟨he, h1, h2, (Step2.below hb).trans h3⟩
  | fin n =>
    obtain ⟨r1, r2, rfl⟩ := hR
    exact xtag_fin n0 n1 B O n op' S l w hP hO hne h0 h01 hg r1 r2 hl
end Go.Proofs.YtjpdadibeocpfaaDoor
