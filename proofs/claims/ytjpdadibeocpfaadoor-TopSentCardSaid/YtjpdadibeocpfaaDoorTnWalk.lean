/-
  The walk of TopSent. No condition.
-/
import Derived.Test.YtjpdadibeocpfaaDoorTcA
import Derived.Test.YtjpdadibeocpfaaDoorWrPrint
import Derived.Test.YtjpdadibeocpfaaDoorStDec
import Derived.Test.YtjpdadibeocpfaaDoorStEa
import Derived.Test.YtjpdadibeocpfaaDoorStRowP
namespace Go.Proofs.YtjpdadibeocpfaaDoor
set_option linter.unusedVariables false
set_option linter.unusedSimpArgs false
open Go.RowKit Go.MapKept Go.Proofs
/-- bytes made of a text are read up to one at which the parser gives up -/
theorem xfall_bytes (n0 B cap : Nat) (s1 s2 s : List UInt8) (c : UInt8) (k : Int) (S S' : Ps) (out : List Tk) (w : World) (hP : PsAt (fun _ => False) n0 B w S) (h0 : n0 ≤ w.heap.size) (hT : Tr S s1 S' out) (hF : FailR S' c k) (hse : s = s1 ++ c :: s2) (hw : S.w.length ≤ 2048) (hlen : out.length ≤ 800) (hm : s.length ≤ 140737488351232) :
    Calls Tryd.prog 7 #[.pointer (some ⟨B, 0, none⟩), .slice (some ⟨w.heap.size, 0, none⟩) s.length cap] (Lib.bytesWorld w 5 ⟨s.toArray⟩) fun e w' => ∃ v, e = .returned (.tuple #[v, .int .i64 k]) ∧ FeedK B w w' :=
  xfall_at n0 B w.heap.size cap s1 s2 s c k S S' out w _ hP h0 (below_bytes w 5 ⟨s.toArray⟩) (Nat.le_refl _) (by rw [Lib.bytesWorld_size]; omega) (U8Row.made w 5 s).1 hT hF hse hw hlen hm
theorem right_whole {z : Sz} (h : rightZ z = true) : wholeL (tokensZ z) = true := by unfold rightZ at h; simp only [Bool.and_eq_true] at h; exact h.2
/-- what a right stanza's text brings -/
theorem sent_or {z : Sz} (h : rightZ z = true) : (∃ S', Tr ⟨[], 0, [], false⟩ (printR (tokensZ z)) S' (tokensZ z)) ∨ (512 < (printR (tokensZ z)).length ∧ ∃ s1 c s2 S1 o1, printR (tokensZ z) = s1 ++ c :: s2 ∧ Tr ⟨[], 0, [], false⟩ s1 S1 o1 ∧ o1.length ≤ (tokensZ z).length ∧ StepR S1 c none) := by
  rcases feed_or _ 0 _ [] rfl (Nat.zero_le _) (feed_start (right_whole h)) with ⟨S', o2, h1, h2, -, -⟩ | ⟨s1, c, s2, S1, o1, h1, h2, h3, h4, h5⟩
  · rw [List.drop_zero] at h1
    rw [List.nil_append] at h2
    rw [← h2] at h1
    exact .inl ⟨S', h1⟩
  · rw [List.drop_zero] at h1
    rw [List.nil_append] at h3
    exact .inr ⟨h5, s1, c, s2, S1, o1, h1, h2, h3, h4⟩
theorem text_len2 : ∀ (ps : List Pc), (∀ p ∈ ps, p.good) → (ps.flatMap Pc.text).length ≤ 40000 * ps.length
  | [], _ => by simp
  | p :: r, h => by
    have ih := text_len2 r fun q hq => h q (by simp [hq])
    have h1 : p.text.length ≤ 40000 := by
      have hg := h p (by simp)
      cases p with
      | txt t => have := esc_len_le t hg.2; simp only [Pc.text]; omega
      | beg n al =>
        have h1 := nameP_len hg.1
        have h2 := atsL_len (attrs_each [] al hg.2)
        have h3 := xattrs_len hg.2
        simp only [Pc.text, List.length_append, List.length_cons, List.length_nil]; omega
      | emp n al =>
        have h1 := nameP_len hg.1
        have h2 := atsL_len (attrs_each [] al hg.2)
        have h3 := xattrs_len hg.2
        simp only [Pc.text, List.length_append, List.length_cons, List.length_nil]; omega
      | fin n =>
        have h1 := nameP_len hg
        simp only [Pc.text, List.length_append, List.length_cons, List.length_nil]; omega
    rw [List.flatMap_cons, List.length_append, List.length_cons]
    omega
theorem pcs_good2 : ∀ (ps : List Pc) (op : List (List UInt8)) (pt rt : Bool), PcOk op pt rt ps → ∀ p ∈ ps, p.good
  | [], _, _, _, _, p, hp => by cases hp
  | q :: r, op, pt, rt, h, p, hp => by
    rcases List.mem_cons.1 hp with rfl | hp2
    · exact h.good
    · cases q with
      | txt t => exact pcs_good2 r _ _ _ h.2.2.2.2.2 p hp2
      | beg n al => exact pcs_good2 r _ _ _ h.2.2.2.2 p hp2
      | emp n al => exact pcs_good2 r _ _ _ h.2.2.2.2 p hp2
      | fin n => obtain ⟨_, op', _, _, h3⟩ := h; exact pcs_good2 r _ _ _ h3 p hp2
theorem toks_many2 : ∀ ps : List Pc, ps.length ≤ (ps.flatMap Pc.toks).length
  | [] => by simp
  | p :: r => by
    have := toks_many2 r
    have h1 : 1 ≤ p.toks.length := by cases p <;> simp [Pc.toks]
    rw [List.flatMap_cons, List.length_append, List.length_cons]
    omega
theorem sent_len {z : Sz} (h : rightZ z = true) : (printR (tokensZ z)).length ≤ 2640000 := by
  obtain ⟨h1, h2, h3⟩ := whole_pieces (right_whole h)
  have h4 := text_len2 _ (pcs_good2 _ _ _ _ h1)
  have h5 := toks_many2 (piecesOf (tokensZ z))
  rw [← h2] at h5
  have h6 := right_len h
  rw [h3]
  omega
set_option maxRecDepth 100000 in
set_option maxHeartbeats 8000000 in
theorem topSent_walk (z : Sz) (sv : Value) (w : World) (h1 : TkS w sv z.pl) (h2 : z.smallF) (h3 : TksB 140737488351232 z.pl) (_ : z.k < 256) :
    Calls Tryd.prog 5 #[szV z sv] w fun e w' => e = .returned (.bool true) ∧ Below w.heap.size w w' := by
  obtain ⟨sa, sc, rfl⟩ : ∃ a c, sv = .slice a z.pl.length c := by obtain ⟨a, c, h, -⟩ := h1; exact ⟨a, c, h⟩
  by_cases hm : 70 < z.pl.length
  · have hRn := Lib.hid (fun W => right_full (.slice none 0 0) [] W ⟨none, 0, rfl, by simp, by simp, fun h => absurd h (by simp)⟩ (fun tk ht => by cases ht))
    have hmI : (70 : Int) < (z.pl.length : Int) := by omega
    clear h1 h2 h3 hm
    obtain ⟨k, ty, fr, tt, id, pl⟩ := z
    unfold szV
    simp only at hmI ⊢
    generalize pl.length = n at hmI ⊢
    go_enter Tryd.func5, Tryd.ntmps5
    go_wp2_with (go_at_call 11; refine (hRn.out _).mono ?_; rintro e w2 ⟨rfl, hb2⟩)
    go_ret
    exact ⟨rfl, belowT (below1 _ _) hb2⟩
  · have hsm : z.small := ⟨h2, by omega, small_of h3⟩
    have hmI : ¬ (70 : Int) < (z.pl.length : Int) := by omega
    have hEnc := Lib.hid (fun W h => encode_any z (.slice sa z.pl.length sc) W h hsm)
    replace h1 := Lib.hid h1
    cases hr : rightZ z with
    | false =>
      have e1 : encL z = [] := by unfold encL; rw [hr]; rfl
      rw [hr, e1] at hEnc
      have hRt := Lib.hid (fun W h => hr ▸ right_any6 z (.slice sa z.pl.length sc) W h hsm)
      replace hsm := Lib.hid hsm
      replace hr := Lib.hid hr
      clear e1 h2 h3 hm
      obtain ⟨k, ty, fr, tt, id, pl⟩ := z
      unfold szV at *
      simp only at hmI hEnc hRt h1 ⊢
      generalize pl.length = n at hmI hEnc hRt h1 ⊢
      have hW0 := (heap_alloc w (.cells #[.int .u8 k, .string ⟨ty.toArray⟩, .string ⟨fr.toArray⟩, .string ⟨tt.toArray⟩, .string ⟨id.toArray⟩, .slice sa n sc] 45)).1
      go_enter Tryd.func5, Tryd.ntmps5
      go_wp2_with (first
        | (go_at_call 13; refine (hEnc.out _ (h1.out.below (below1 _ _))).mono ?_; rintro e w2 ⟨v2, rfl, hT2, hb2⟩
           obtain ⟨v2a, v2c, hv2⟩ := hT2.shape
           change v2 = .slice v2a 0 v2c at hv2
           subst hv2
           obtain ⟨c2, -⟩ := bat hb2 w.heap.size (by simp)
           have l2 : w.heap.size < w2.heap.size := Nat.lt_of_lt_of_le (by simp) hb2.size
           have hB2 := Lib.hid (belowT (below1 w _) hb2)
           clear hT2 hb2)
        | (go_at_call 14; refine (hRt.out _ (h1.out.below hB2.out)).mono ?_; rintro e w3 ⟨rfl, hb3⟩; replace hb3 := Lib.hid (belowT hB2.out hb3)))
      go_ret
      exact ⟨rfl, hb3.out⟩
    | true =>
      have e1 : encL z = tokensZ z := by unfold encL; rw [hr]; rfl
      rw [hr, e1] at hEnc
      have hPg := Lib.hid (fun v W h => print_good v (tokensZ z) W h (tokens_small hsm) (whole_right (right_whole hr)).1)
      have hlen := sent_len hr
      have hRl := right_len hr
      have hOr := sent_or hr
      have hDec : Hid (∀ W v, TkS W v (tokensZ z) → Calls Tryd.prog 15 #[v] W fun e w' => ∃ sv, e = .returned (.tuple #[szV z sv, .int .i64 0]) ∧ TkS w' sv z.pl ∧ Below W.heap.size W w') := Lib.hid fun W v h => by
        refine (decode_any v _ W h (tokens_ok hsm) (by omega)).mono ?_
        rintro e w1 ⟨sv, z', rfl, hz', hT', hb⟩
        rw [dec_tokens hr] at hz' ⊢
        obtain rfl : z = z' := hz'
        exact ⟨sv, rfl, hT', hb⟩
      have hSam : Hid (∀ W v1 v2, TkS W v1 z.pl → TkS W v2 z.pl → Calls Tryd.prog 16 #[szV z v1, szV z v2] W fun e w' => e = .returned (.bool true) ∧ Below W.heap.size W w') := Lib.hid fun W v1 v2 h1 h2 => by
        have := sameZ_any z z v1 v2 W h1 h2
        rw [sameZ_refl] at this
        exact this
      have hzt : (ByteArray.mk (printR (tokensZ z)).toArray).size = (printR (tokensZ z)).length := by simp [ByteArray.size]
      replace hsm := Lib.hid hsm
      replace hr := Lib.hid hr
      clear e1 h2 h3 hm
      generalize hL : tokensZ z = L at *
      replace hL := Lib.hid hL
      generalize hPR : printR L = t at *
      replace hPR := Lib.hid hPR
      obtain ⟨k, ty, fr, tt, id, pl⟩ := z
      unfold szV at *
      simp only at hmI hEnc hDec hSam h1 ⊢
      generalize pl.length = n at hmI hEnc h1 ⊢
      have hW0 := (heap_alloc w (.cells #[.int .u8 k, .string ⟨ty.toArray⟩, .string ⟨fr.toArray⟩, .string ⟨tt.toArray⟩, .string ⟨id.toArray⟩, .slice sa n sc] 45)).1
      rcases hOr with ⟨S', hTr⟩ | ⟨h512, s1, c, s2, S1, o1, hse, hTr, hol, hfl⟩
      · replace hTr := Lib.hid hTr
        go_enter Tryd.func5, Tryd.ntmps5
        go_wp2_with (first
          | (go_at_call 13; refine (hEnc.out _ (h1.out.below (below1 _ _))).mono ?_; rintro e w2 ⟨v2, rfl, hT2, hb2⟩
             obtain ⟨v2a, v2c, rfl⟩ := hT2.shape
             have hB2 := Lib.hid (belowT (below1 w _) hb2)
             have hX2 := (hb2.block w.heap.size (by simp)).trans hW0
             replace hT2 := Lib.hid hT2; clear hb2)
          | (go_at_call 8; refine (hPg.out _ _ hT2.out).mono ?_; rintro e w3 ⟨rfl, hb3⟩
             have hB3 := Lib.hid (belowT hB2.out hb3)
             have hX3 := (hb3.block w.heap.size (Array.getElem?_eq_some_iff.1 hX2).1).trans hX2
             clear hb3)
          | (go_at_call 6; refine (xnew_any _).mono ?_; rintro e w4 ⟨rfl, hw4⟩
             have hP4 : PsAt (fun _ => False) (w3.heap.size + 1) w3.heap.size w4 ⟨[], 0, [], false⟩ := by rw [hw4]; exact new_ps w3
             have hb4 : Below w3.heap.size w3 w4 := by rw [hw4]; exact below1 _ _
             have hs4 : w4.heap.size = w3.heap.size + 1 := by rw [hw4, World.size_alloc]
             clear hw4
             have hcI := Lib.run_convert_string_bytes (P := Tryd.prog) w4 9 22 5 ⟨t.toArray⟩ Tryd.underlying9 Tryd.underlying22 Tryd.underlying5
             have hF1 := fun cap => xfeed_bytes (w3.heap.size + 1) w3.heap.size cap t _ S' L w4 hP4 (by omega) hTr.out (by simp) (by omega) (by omega)
             rw [hzt] at hcI
             generalize Lib.bytesWorld w4 5 ⟨t.toArray⟩ = W5 at hcI hF1
             generalize grownCap w4 t.length 0 5 = cap1 at hcI
             replace hF1 := Lib.hid hF1
             replace hP4 := Lib.hid hP4
             replace hb4 := Lib.hid hb4
             replace hs4 := Lib.hid hs4)
          | (go_at_call 7; refine (hF1.out _).mono ?_; rintro e w6 ⟨v6, rfl, hK6, -, hf6⟩
             obtain ⟨v6a, v6c, rfl⟩ := hK6.val
             have hb6 := hf6.below hb4.out hP4.out (Nat.le_refl _) (by omega)
             have hX6 := (hb6.block w.heap.size (Array.getElem?_eq_some_iff.1 hX3).1).trans hX3
             have hB6 := Lib.hid (belowT hB3.out hb6)
             have hT6 := Lib.hid hK6.tks
             clear hK6 hf6 hb6)
          | (go_at_call 15; refine (hDec.out _ _ hT6.out).mono ?_; rintro e w7 ⟨v7, rfl, hT7, hb7⟩
             obtain ⟨v7a, v7n, v7c, rfl⟩ : ∃ a n c, v7 = .slice a n c := (by obtain ⟨a, c, h, -⟩ := hT7; exact ⟨a, _, c, h⟩)
             have hX7 := (hb7.block w.heap.size (Array.getElem?_eq_some_iff.1 hX6).1).trans hX6
             obtain ⟨x7, -, l7⟩ := obj_cells hX7
             replace hB6 := Lib.hid (belowT hB6.out hb7)
             replace hT7 := Lib.hid hT7; clear hb7)
          | (go_at_call 16; refine (hSam.out _ _ _ (hT7.out.below (below1 _ _)) (h1.out.below (belowA hB6.out _))).mono ?_; rintro e w8 ⟨rfl, hb8⟩
             replace hb8 := Lib.hid (belowT (belowA hB6.out _) hb8)))
        go_ret
        exact ⟨rfl, hb8.out⟩
      · have h5 : (512 : Int) < (t.length : Int) := by omega
        replace hTr := Lib.hid hTr
        replace hse := Lib.hid hse
        replace hfl := Lib.hid hfl
        clear h512
        go_enter Tryd.func5, Tryd.ntmps5
        go_wp2_with (first
          | (go_at_call 13; refine (hEnc.out _ (h1.out.below (below1 _ _))).mono ?_; rintro e w2 ⟨v2, rfl, hT2, hb2⟩
             obtain ⟨v2a, v2c, rfl⟩ := hT2.shape
             have hB2 := Lib.hid (belowT (below1 w _) hb2)
             have hX2 := (hb2.block w.heap.size (by simp)).trans hW0
             replace hT2 := Lib.hid hT2; clear hb2)
          | (go_at_call 8; refine (hPg.out _ _ hT2.out).mono ?_; rintro e w3 ⟨rfl, hb3⟩
             have hB3 := Lib.hid (belowT hB2.out hb3)
             have hX3 := (hb3.block w.heap.size (Array.getElem?_eq_some_iff.1 hX2).1).trans hX2
             clear hb3)
          | (go_at_call 6; refine (xnew_any _).mono ?_; rintro e w4 ⟨rfl, hw4⟩
             have hP4 : PsAt (fun _ => False) (w3.heap.size + 1) w3.heap.size w4 ⟨[], 0, [], false⟩ := by rw [hw4]; exact new_ps w3
             have hb4 : Below w3.heap.size w3 w4 := by rw [hw4]; exact below1 _ _
             have hs4 : w4.heap.size = w3.heap.size + 1 := by rw [hw4, World.size_alloc]
             clear hw4
             have hcI := Lib.run_convert_string_bytes (P := Tryd.prog) w4 9 22 5 ⟨t.toArray⟩ Tryd.underlying9 Tryd.underlying22 Tryd.underlying5
             have hF1 := fun cap => xfall_bytes (w3.heap.size + 1) w3.heap.size cap s1 s2 t c 5 _ S1 o1 w4 hP4 (by omega) hTr.out (.inl ⟨hfl.out, rfl⟩) hse.out (by simp) (by omega) (by omega)
             rw [hzt] at hcI
             generalize Lib.bytesWorld w4 5 ⟨t.toArray⟩ = W5 at hcI hF1
             generalize grownCap w4 t.length 0 5 = cap1 at hcI
             replace hF1 := Lib.hid hF1
             replace hP4 := Lib.hid hP4
             replace hb4 := Lib.hid hb4
             replace hs4 := Lib.hid hs4)
          | (go_at_call 7; refine (hF1.out _).mono ?_; rintro e w6 ⟨v6, rfl, hf6⟩
             have hB6 := Lib.hid (belowT hB3.out (hf6.below hb4.out hP4.out (Nat.le_refl _) (by omega)))
             clear hf6))
        go_ret
        exact ⟨rfl, hB6.out⟩
end Go.Proofs.YtjpdadibeocpfaaDoor
