/-
  The walk of StanzaBack. (Printed by wip/tools/genback.py.)
-/
import Derived.Test.YtpgojinfhfipeaaStRow
namespace Go.Proofs.Ytpgojinfhfipeaa
set_option linter.unusedVariables false
set_option linter.unusedSimpArgs false
open Go.RowKit Go.MapKept
set_option maxHeartbeats 4000000 in
theorem back_y_m (zf : Sz) (hzf : zf.small) (z : Sz) (sv v : Value) (l : List Tk) (w : World) (hz : zf = { z with pl := z.pl.take 70 }) (hT : TkS w sv z.pl) (hTl : TkS w v l) (hlB : ∀ tk ∈ l, tk.small ∧ tk.as.length * 32 ≤ 140737488351232) (hr : rightZ zf = true) (hm : 70 < l.length) :
    Calls Try.prog 5 #[szV z sv, v] w fun e w' => e = .returned (.bool true) ∧ Below w.heap.size w w' := by
  have hfew : Hid (∀ W, Calls Try.prog 11 #[szV z sv] W fun e w' => ∃ sv', e = .returned (szV zf sv') ∧ TkS w sv' zf.pl ∧ Below W.heap.size W w') := Lib.hid fun W => by subst hz; exact fewZ_any z sv w W hT
  have hEnc : Hid (∀ W sv', TkS W sv' zf.pl → Calls Try.prog 8 #[szV zf sv'] W fun e w' => ∃ v, e = .returned (.tuple #[v, .int .i64 0]) ∧ TkS w' v (tokensZ zf) ∧ Below W.heap.size W w') := Lib.hid fun W sv' h => by
    have := encode_any zf sv' W h hzf
    unfold encL at this
    rw [hr] at this
    exact this
  have hDec : Hid (∀ W v, TkS W v (tokensZ zf) → Calls Try.prog 19 #[v] W fun e w' => ∃ sv, e = .returned (.tuple #[szV zf sv, .int .i64 0]) ∧ TkS w' sv zf.pl ∧ Below W.heap.size W w') := Lib.hid fun W v h => by
    refine (decode_any v _ W h (tokens_ok hzf) (by have := right_len hr; omega)).mono ?_
    rintro e w1 ⟨sv, z', rfl, hz', hT', hb⟩
    rw [dec_tokens hr] at hz' ⊢
    obtain rfl : zf = z' := hz'
    exact ⟨sv, rfl, hT', hb⟩
  have hSam : Hid (∀ W v1 v2, TkS W v1 zf.pl → TkS W v2 zf.pl → Calls Try.prog 20 #[szV zf v1, szV zf v2] W fun e w' => e = .returned (.bool true) ∧ Below W.heap.size W w') := Lib.hid fun W v1 v2 h1 h2 => by
    have := sameZ_any zf zf v1 v2 W h1 h2
    rw [sameZ_refl] at this
    exact this
  obtain ⟨sa, sn, sc, rfl⟩ : ∃ a n c, sv = .slice a n c := by obtain ⟨a, c, h, -⟩ := hT; exact ⟨a, _, c, h⟩
  obtain ⟨va, vc, rfl, hlc, hlm, -⟩ : ∃ a c, v = .slice a l.length c ∧ l.length ≤ c ∧ c ≤ maxLen ∧ True := by obtain ⟨a, c, h, h1, h2, -⟩ := hTl; exact ⟨a, c, h, h1, h2, trivial⟩
  have hl9 : (l.length : Int) ≤ 9223372036854775807 := by unfold maxLen at hlm; omega
  have hmI : (70 : Int) < l.length := by omega
  replace hTl := Lib.hid hTl
  clear hT hlB hz hr hzf
  unfold szV at *
  obtain ⟨zk, zt, zr, zo, zi, zp⟩ := z
  obtain ⟨fk, ft, fr, fo, fi, fp⟩ := zf
  simp only at *
  generalize l.length = n at *
  go_enter Try.func5, Try.ntmps5
  go_upto_region 2 with (go_at_call 11; refine (hfew.out _).mono ?_; rintro e w1 ⟨f', rfl, hTf, hb1⟩; obtain ⟨fa, fn, fc, rfl⟩ : ∃ a n c, f' = .slice a n c := (by obtain ⟨a, c, h, -⟩ := hTf; exact ⟨a, _, c, h⟩); obtain ⟨h1c, h1z⟩ := bat hb1 w.heap.size (by simp))
  have hObj := set6_obj ((hb1.block _ (by simp)).trans (heap_alloc w _).1) (.int .u8 fk) (.string ⟨ft.toArray⟩) (.string ⟨fr.toArray⟩) (.string ⟨fo.toArray⟩) (.string ⟨fi.toArray⟩) (.slice fa fn fc)
  have hB : Hid (Below w.heap.size w ((((((w1.setCell ⟨w.heap.size, 0, none⟩ (.int .u8 fk)).setCell ⟨w.heap.size, 1, none⟩ (.string ⟨ft.toArray⟩)).setCell ⟨w.heap.size, 2, none⟩ (.string ⟨fr.toArray⟩)).setCell ⟨w.heap.size, 3, none⟩ (.string ⟨fo.toArray⟩)).setCell ⟨w.heap.size, 4, none⟩ (.string ⟨fi.toArray⟩)).setCell ⟨w.heap.size, 5, none⟩ (.slice fa fn fc))) := Lib.hid (set6 (below1t hb1) (Nat.le_refl _) _ _ _ _ _ _)
  generalize ((((((w1.setCell ⟨w.heap.size, 0, none⟩ (.int .u8 fk)).setCell ⟨w.heap.size, 1, none⟩ (.string ⟨ft.toArray⟩)).setCell ⟨w.heap.size, 2, none⟩ (.string ⟨fr.toArray⟩)).setCell ⟨w.heap.size, 3, none⟩ (.string ⟨fo.toArray⟩)).setCell ⟨w.heap.size, 4, none⟩ (.string ⟨fi.toArray⟩)).setCell ⟨w.heap.size, 5, none⟩ (.slice fa fn fc)) = W1 at hObj hB ⊢
  obtain ⟨xc, -, xl⟩ := obj_cells hObj
  clear hObj h1c h1z hb1 w1
  replace hTf := Lib.hid hTf
  have tok1 := Lib.hid True.intro
  go_wp2_with (first
    | (go_at_call 8
       have m0 := tok1.out
       refine (hEnc.out _ _ (hTf.out.below hB.out)).mono ?_
       rintro e w2 ⟨v2, rfl, hT2, hb2⟩
       obtain ⟨v2a, v2n, v2c, rfl⟩ : ∃ a n c, v2 = .slice a n c := (by obtain ⟨a, c, h, -⟩ := hT2; exact ⟨a, _, c, h⟩)
       obtain ⟨c2, -⟩ := bat hb2 w.heap.size xl
       have l2 : w.heap.size < w2.heap.size := Nat.lt_of_lt_of_le xl hb2.size
       replace hB := Lib.hid (belowT hB.out hb2)
       replace hT2 := Lib.hid hT2
       clear tok1 m0 hb2
       have tok2 := Lib.hid True.intro)
    | (go_at_call 19
       have m0 := tok2.out
       refine (hDec.out _ _ hT2.out).mono ?_
       rintro e w3 ⟨v3, rfl, hT3, hb3⟩
       obtain ⟨v3a, v3n, v3c, rfl⟩ : ∃ a n c, v3 = .slice a n c := (by obtain ⟨a, c, h, -⟩ := hT3; exact ⟨a, _, c, h⟩)
       obtain ⟨c3, -⟩ := bat hb3 w.heap.size l2
       have l3 : w.heap.size < w3.heap.size := Nat.lt_of_lt_of_le l2 hb3.size
       replace hB := Lib.hid (belowT hB.out hb3)
       replace hT3 := Lib.hid hT3
       clear tok2 m0 hb3
       have tok3 := Lib.hid True.intro)
    | (go_at_call 20
       have m0 := tok3.out
       refine (hSam.out _ _ _ (hT3.out.below (below1 _ _)) (hTf.out.below (belowA hB.out _))).mono ?_
       rintro e w4 ⟨rfl, hb4⟩
       replace hB := Lib.hid (belowT (belowA hB.out _) hb4)
       clear tok3 m0 hb4
       have tok4 := Lib.hid True.intro)
    | (go_at_call 9
       refine (live6_any _).mono ?_
       rintro e w9 ⟨rfl, hb9⟩
       replace hB := Lib.hid (belowT hB.out hb9)))
  go_ret
  exact ⟨rfl, hB.out⟩
set_option maxHeartbeats 4000000 in
theorem back_y_n (zf : Sz) (hzf : zf.small) (z : Sz) (sv v : Value) (l : List Tk) (w : World) (hz : zf = { z with pl := z.pl.take 70 }) (hT : TkS w sv z.pl) (hTl : TkS w v l) (hlB : ∀ tk ∈ l, tk.small ∧ tk.as.length * 32 ≤ 140737488351232) (hr : rightZ zf = true) (hm : l.length ≤ 70) (hd : decZ l = none) :
    Calls Try.prog 5 #[szV z sv, v] w fun e w' => e = .returned (.bool true) ∧ Below w.heap.size w w' := by
  have hfew : Hid (∀ W, Calls Try.prog 11 #[szV z sv] W fun e w' => ∃ sv', e = .returned (szV zf sv') ∧ TkS w sv' zf.pl ∧ Below W.heap.size W w') := Lib.hid fun W => by subst hz; exact fewZ_any z sv w W hT
  have hEnc : Hid (∀ W sv', TkS W sv' zf.pl → Calls Try.prog 8 #[szV zf sv'] W fun e w' => ∃ v, e = .returned (.tuple #[v, .int .i64 0]) ∧ TkS w' v (tokensZ zf) ∧ Below W.heap.size W w') := Lib.hid fun W sv' h => by
    have := encode_any zf sv' W h hzf
    unfold encL at this
    rw [hr] at this
    exact this
  have hDec : Hid (∀ W v, TkS W v (tokensZ zf) → Calls Try.prog 19 #[v] W fun e w' => ∃ sv, e = .returned (.tuple #[szV zf sv, .int .i64 0]) ∧ TkS w' sv zf.pl ∧ Below W.heap.size W w') := Lib.hid fun W v h => by
    refine (decode_any v _ W h (tokens_ok hzf) (by have := right_len hr; omega)).mono ?_
    rintro e w1 ⟨sv, z', rfl, hz', hT', hb⟩
    rw [dec_tokens hr] at hz' ⊢
    obtain rfl : zf = z' := hz'
    exact ⟨sv, rfl, hT', hb⟩
  have hSam : Hid (∀ W v1 v2, TkS W v1 zf.pl → TkS W v2 zf.pl → Calls Try.prog 20 #[szV zf v1, szV zf v2] W fun e w' => e = .returned (.bool true) ∧ Below W.heap.size W w') := Lib.hid fun W v1 v2 h1 h2 => by
    have := sameZ_any zf zf v1 v2 W h1 h2
    rw [sameZ_refl] at this
    exact this
  have hDl : Hid (∀ W, TkS W v l → Calls Try.prog 19 #[v] W fun e w' => ∃ a c, e = .returned (.tuple #[.agg #[.int .u8 0, .string ⟨#[]⟩, .string ⟨#[]⟩, .string ⟨#[]⟩, .string ⟨#[]⟩, .slice a 0 c], .int .i64 3]) ∧ Below W.heap.size W w') := Lib.hid fun W h => by
    refine (decode_any v _ W h hlB (by omega)).mono ?_
    rintro e w1 ⟨sv, z', rfl, hz', hT', hb⟩
    rw [hd] at hz' ⊢
    obtain rfl : zero0 = z' := hz'
    obtain ⟨a, c, rfl, -⟩ := hT'
    exact ⟨a, c, rfl, hb⟩
  obtain ⟨sa, sn, sc, rfl⟩ : ∃ a n c, sv = .slice a n c := by obtain ⟨a, c, h, -⟩ := hT; exact ⟨a, _, c, h⟩
  obtain ⟨va, vc, rfl, hlc, hlm, -⟩ : ∃ a c, v = .slice a l.length c ∧ l.length ≤ c ∧ c ≤ maxLen ∧ True := by obtain ⟨a, c, h, h1, h2, -⟩ := hTl; exact ⟨a, c, h, h1, h2, trivial⟩
  have hl9 : (l.length : Int) ≤ 9223372036854775807 := by unfold maxLen at hlm; omega
  have hmI : ¬ (70 : Int) < l.length := by omega
  replace hTl := Lib.hid hTl
  clear hT hlB hz hr hzf hd
  unfold szV at *
  obtain ⟨zk, zt, zr, zo, zi, zp⟩ := z
  obtain ⟨fk, ft, fr, fo, fi, fp⟩ := zf
  simp only at *
  generalize l.length = n at *
  go_enter Try.func5, Try.ntmps5
  go_upto_region 2 with (go_at_call 11; refine (hfew.out _).mono ?_; rintro e w1 ⟨f', rfl, hTf, hb1⟩; obtain ⟨fa, fn, fc, rfl⟩ : ∃ a n c, f' = .slice a n c := (by obtain ⟨a, c, h, -⟩ := hTf; exact ⟨a, _, c, h⟩); obtain ⟨h1c, h1z⟩ := bat hb1 w.heap.size (by simp))
  have hObj := set6_obj ((hb1.block _ (by simp)).trans (heap_alloc w _).1) (.int .u8 fk) (.string ⟨ft.toArray⟩) (.string ⟨fr.toArray⟩) (.string ⟨fo.toArray⟩) (.string ⟨fi.toArray⟩) (.slice fa fn fc)
  have hB : Hid (Below w.heap.size w ((((((w1.setCell ⟨w.heap.size, 0, none⟩ (.int .u8 fk)).setCell ⟨w.heap.size, 1, none⟩ (.string ⟨ft.toArray⟩)).setCell ⟨w.heap.size, 2, none⟩ (.string ⟨fr.toArray⟩)).setCell ⟨w.heap.size, 3, none⟩ (.string ⟨fo.toArray⟩)).setCell ⟨w.heap.size, 4, none⟩ (.string ⟨fi.toArray⟩)).setCell ⟨w.heap.size, 5, none⟩ (.slice fa fn fc))) := Lib.hid (set6 (below1t hb1) (Nat.le_refl _) _ _ _ _ _ _)
  generalize ((((((w1.setCell ⟨w.heap.size, 0, none⟩ (.int .u8 fk)).setCell ⟨w.heap.size, 1, none⟩ (.string ⟨ft.toArray⟩)).setCell ⟨w.heap.size, 2, none⟩ (.string ⟨fr.toArray⟩)).setCell ⟨w.heap.size, 3, none⟩ (.string ⟨fo.toArray⟩)).setCell ⟨w.heap.size, 4, none⟩ (.string ⟨fi.toArray⟩)).setCell ⟨w.heap.size, 5, none⟩ (.slice fa fn fc)) = W1 at hObj hB ⊢
  obtain ⟨xc, -, xl⟩ := obj_cells hObj
  clear hObj h1c h1z hb1 w1
  replace hTf := Lib.hid hTf
  have tok1 := Lib.hid True.intro
  go_wp2_with (first
    | (go_at_call 8
       have m0 := tok1.out
       refine (hEnc.out _ _ (hTf.out.below hB.out)).mono ?_
       rintro e w2 ⟨v2, rfl, hT2, hb2⟩
       obtain ⟨v2a, v2n, v2c, rfl⟩ : ∃ a n c, v2 = .slice a n c := (by obtain ⟨a, c, h, -⟩ := hT2; exact ⟨a, _, c, h⟩)
       obtain ⟨c2, -⟩ := bat hb2 w.heap.size xl
       have l2 : w.heap.size < w2.heap.size := Nat.lt_of_lt_of_le xl hb2.size
       replace hB := Lib.hid (belowT hB.out hb2)
       replace hT2 := Lib.hid hT2
       clear tok1 m0 hb2
       have tok2 := Lib.hid True.intro)
    | (go_at_call 19
       have m0 := tok2.out
       refine (hDec.out _ _ hT2.out).mono ?_
       rintro e w3 ⟨v3, rfl, hT3, hb3⟩
       obtain ⟨v3a, v3n, v3c, rfl⟩ : ∃ a n c, v3 = .slice a n c := (by obtain ⟨a, c, h, -⟩ := hT3; exact ⟨a, _, c, h⟩)
       obtain ⟨c3, -⟩ := bat hb3 w.heap.size l2
       have l3 : w.heap.size < w3.heap.size := Nat.lt_of_lt_of_le l2 hb3.size
       replace hB := Lib.hid (belowT hB.out hb3)
       replace hT3 := Lib.hid hT3
       clear tok2 m0 hb3
       have tok3 := Lib.hid True.intro)
    | (go_at_call 20
       have m0 := tok3.out
       refine (hSam.out _ _ _ (hT3.out.below (below1 _ _)) (hTf.out.below (belowA hB.out _))).mono ?_
       rintro e w4 ⟨rfl, hb4⟩
       replace hB := Lib.hid (belowT (belowA hB.out _) hb4)
       clear tok3 m0 hb4
       have tok4 := Lib.hid True.intro)
    | (go_at_call 19
       have m0 := tok4.out
       refine (hDl.out _ (hTl.out.below hB.out)).mono ?_
       rintro e w6 ⟨v6a, v6c, rfl, hb6⟩
       replace hB := Lib.hid (belowT hB.out hb6)
       clear tok4 m0 hb6)
    | (go_at_call 9
       refine (live6_any _).mono ?_
       rintro e w9 ⟨rfl, hb9⟩
       obtain ⟨c9, -⟩ := bat hb9 w6.heap.size (by simp)
       replace hB := Lib.hid (belowT (belowA hB.out _) hb9)))
  go_ret
  exact ⟨rfl, hB.out⟩
set_option maxHeartbeats 4000000 in
theorem back_y_s (zf : Sz) (hzf : zf.small) (z : Sz) (sv v : Value) (l : List Tk) (w : World) (hz : zf = { z with pl := z.pl.take 70 }) (hT : TkS w sv z.pl) (hTl : TkS w v l) (hlB : ∀ tk ∈ l, tk.small ∧ tk.as.length * 32 ≤ 140737488351232) (hr : rightZ zf = true) (hm : l.length ≤ 70) (x : Sz) (hd : decZ l = some x) :
    Calls Try.prog 5 #[szV z sv, v] w fun e w' => e = .returned (.bool true) ∧ Below w.heap.size w w' := by
  have hfew : Hid (∀ W, Calls Try.prog 11 #[szV z sv] W fun e w' => ∃ sv', e = .returned (szV zf sv') ∧ TkS w sv' zf.pl ∧ Below W.heap.size W w') := Lib.hid fun W => by subst hz; exact fewZ_any z sv w W hT
  have hEnc : Hid (∀ W sv', TkS W sv' zf.pl → Calls Try.prog 8 #[szV zf sv'] W fun e w' => ∃ v, e = .returned (.tuple #[v, .int .i64 0]) ∧ TkS w' v (tokensZ zf) ∧ Below W.heap.size W w') := Lib.hid fun W sv' h => by
    have := encode_any zf sv' W h hzf
    unfold encL at this
    rw [hr] at this
    exact this
  have hDec : Hid (∀ W v, TkS W v (tokensZ zf) → Calls Try.prog 19 #[v] W fun e w' => ∃ sv, e = .returned (.tuple #[szV zf sv, .int .i64 0]) ∧ TkS w' sv zf.pl ∧ Below W.heap.size W w') := Lib.hid fun W v h => by
    refine (decode_any v _ W h (tokens_ok hzf) (by have := right_len hr; omega)).mono ?_
    rintro e w1 ⟨sv, z', rfl, hz', hT', hb⟩
    rw [dec_tokens hr] at hz' ⊢
    obtain rfl : zf = z' := hz'
    exact ⟨sv, rfl, hT', hb⟩
  have hSam : Hid (∀ W v1 v2, TkS W v1 zf.pl → TkS W v2 zf.pl → Calls Try.prog 20 #[szV zf v1, szV zf v2] W fun e w' => e = .returned (.bool true) ∧ Below W.heap.size W w') := Lib.hid fun W v1 v2 h1 h2 => by
    have := sameZ_any zf zf v1 v2 W h1 h2
    rw [sameZ_refl] at this
    exact this
  have hxr := dec_right hd
  have hxs := dec_small hlB (by omega) hd
  have hDl : Hid (∀ W, TkS W v l → Calls Try.prog 19 #[v] W fun e w' => ∃ sv, e = .returned (.tuple #[szV x sv, .int .i64 0]) ∧ TkS w' sv x.pl ∧ Below W.heap.size W w') := Lib.hid fun W h => by
    refine (decode_any v _ W h hlB (by omega)).mono ?_
    rintro e w1 ⟨sv, z', rfl, hz', hT', hb⟩
    rw [hd] at hz' ⊢
    obtain rfl : x = z' := hz'
    exact ⟨sv, rfl, hT', hb⟩
  have hEx : Hid (∀ W sv', TkS W sv' x.pl → Calls Try.prog 8 #[szV x sv'] W fun e w' => ∃ v, e = .returned (.tuple #[v, .int .i64 0]) ∧ TkS w' v (tokensZ x) ∧ Below W.heap.size W w') := Lib.hid fun W sv' h => by
    have := encode_any x sv' W h hxs
    unfold encL at this
    rw [hxr] at this
    exact this
  have hDx : Hid (∀ W v, TkS W v (tokensZ x) → Calls Try.prog 19 #[v] W fun e w' => ∃ sv, e = .returned (.tuple #[szV x sv, .int .i64 0]) ∧ TkS w' sv x.pl ∧ Below W.heap.size W w') := Lib.hid fun W v h => by
    refine (decode_any v _ W h (tokens_ok hxs) (by have := right_len hxr; omega)).mono ?_
    rintro e w1 ⟨sv, z', rfl, hz', hT', hb⟩
    rw [dec_tokens hxr] at hz' ⊢
    obtain rfl : x = z' := hz'
    exact ⟨sv, rfl, hT', hb⟩
  have hRx : Hid (∀ W sv', TkS W sv' x.pl → Calls Try.prog 10 #[szV x sv'] W fun e w' => e = .returned (.bool true) ∧ Below W.heap.size W w') := Lib.hid fun W sv' h => by
    have := right_any6 x sv' W h hxs
    rw [hxr] at this
    exact this
  have hSx : Hid (∀ W v1 v2, TkS W v1 x.pl → TkS W v2 x.pl → Calls Try.prog 20 #[szV x v1, szV x v2] W fun e w' => e = .returned (.bool true) ∧ Below W.heap.size W w') := Lib.hid fun W v1 v2 h1 h2 => by
    have := sameZ_any x x v1 v2 W h1 h2
    rw [sameZ_refl] at this
    exact this
  clear hxr hxs
  obtain ⟨sa, sn, sc, rfl⟩ : ∃ a n c, sv = .slice a n c := by obtain ⟨a, c, h, -⟩ := hT; exact ⟨a, _, c, h⟩
  obtain ⟨va, vc, rfl, hlc, hlm, -⟩ : ∃ a c, v = .slice a l.length c ∧ l.length ≤ c ∧ c ≤ maxLen ∧ True := by obtain ⟨a, c, h, h1, h2, -⟩ := hTl; exact ⟨a, c, h, h1, h2, trivial⟩
  have hl9 : (l.length : Int) ≤ 9223372036854775807 := by unfold maxLen at hlm; omega
  have hmI : ¬ (70 : Int) < l.length := by omega
  replace hTl := Lib.hid hTl
  clear hT hlB hz hr hzf hd
  unfold szV at *
  obtain ⟨zk, zt, zr, zo, zi, zp⟩ := z
  obtain ⟨fk, ft, fr, fo, fi, fp⟩ := zf
  obtain ⟨xk, xt, xr, xo, xi, xp⟩ := x
  simp only at *
  generalize l.length = n at *
  go_enter Try.func5, Try.ntmps5
  go_upto_region 2 with (go_at_call 11; refine (hfew.out _).mono ?_; rintro e w1 ⟨f', rfl, hTf, hb1⟩; obtain ⟨fa, fn, fc, rfl⟩ : ∃ a n c, f' = .slice a n c := (by obtain ⟨a, c, h, -⟩ := hTf; exact ⟨a, _, c, h⟩); obtain ⟨h1c, h1z⟩ := bat hb1 w.heap.size (by simp))
  have hObj := set6_obj ((hb1.block _ (by simp)).trans (heap_alloc w _).1) (.int .u8 fk) (.string ⟨ft.toArray⟩) (.string ⟨fr.toArray⟩) (.string ⟨fo.toArray⟩) (.string ⟨fi.toArray⟩) (.slice fa fn fc)
  have hB : Hid (Below w.heap.size w ((((((w1.setCell ⟨w.heap.size, 0, none⟩ (.int .u8 fk)).setCell ⟨w.heap.size, 1, none⟩ (.string ⟨ft.toArray⟩)).setCell ⟨w.heap.size, 2, none⟩ (.string ⟨fr.toArray⟩)).setCell ⟨w.heap.size, 3, none⟩ (.string ⟨fo.toArray⟩)).setCell ⟨w.heap.size, 4, none⟩ (.string ⟨fi.toArray⟩)).setCell ⟨w.heap.size, 5, none⟩ (.slice fa fn fc))) := Lib.hid (set6 (below1t hb1) (Nat.le_refl _) _ _ _ _ _ _)
  generalize ((((((w1.setCell ⟨w.heap.size, 0, none⟩ (.int .u8 fk)).setCell ⟨w.heap.size, 1, none⟩ (.string ⟨ft.toArray⟩)).setCell ⟨w.heap.size, 2, none⟩ (.string ⟨fr.toArray⟩)).setCell ⟨w.heap.size, 3, none⟩ (.string ⟨fo.toArray⟩)).setCell ⟨w.heap.size, 4, none⟩ (.string ⟨fi.toArray⟩)).setCell ⟨w.heap.size, 5, none⟩ (.slice fa fn fc)) = W1 at hObj hB ⊢
  obtain ⟨xc, -, xl⟩ := obj_cells hObj
  clear hObj h1c h1z hb1 w1
  replace hTf := Lib.hid hTf
  have tok1 := Lib.hid True.intro
  go_wp2_with (first
    | (go_at_call 8
       have m0 := tok1.out
       refine (hEnc.out _ _ (hTf.out.below hB.out)).mono ?_
       rintro e w2 ⟨v2, rfl, hT2, hb2⟩
       obtain ⟨v2a, v2n, v2c, rfl⟩ : ∃ a n c, v2 = .slice a n c := (by obtain ⟨a, c, h, -⟩ := hT2; exact ⟨a, _, c, h⟩)
       obtain ⟨c2, -⟩ := bat hb2 w.heap.size xl
       have l2 : w.heap.size < w2.heap.size := Nat.lt_of_lt_of_le xl hb2.size
       replace hB := Lib.hid (belowT hB.out hb2)
       replace hT2 := Lib.hid hT2
       clear tok1 m0 hb2
       have tok2 := Lib.hid True.intro)
    | (go_at_call 19
       have m0 := tok2.out
       refine (hDec.out _ _ hT2.out).mono ?_
       rintro e w3 ⟨v3, rfl, hT3, hb3⟩
       obtain ⟨v3a, v3n, v3c, rfl⟩ : ∃ a n c, v3 = .slice a n c := (by obtain ⟨a, c, h, -⟩ := hT3; exact ⟨a, _, c, h⟩)
       obtain ⟨c3, -⟩ := bat hb3 w.heap.size l2
       have l3 : w.heap.size < w3.heap.size := Nat.lt_of_lt_of_le l2 hb3.size
       replace hB := Lib.hid (belowT hB.out hb3)
       replace hT3 := Lib.hid hT3
       clear tok2 m0 hb3
       have tok3 := Lib.hid True.intro)
    | (go_at_call 20
       have m0 := tok3.out
       refine (hSam.out _ _ _ (hT3.out.below (below1 _ _)) (hTf.out.below (belowA hB.out _))).mono ?_
       rintro e w4 ⟨rfl, hb4⟩
       replace hB := Lib.hid (belowT (belowA hB.out _) hb4)
       clear tok3 m0 hb4
       have tok4 := Lib.hid True.intro)
    | (go_at_call 19
       have m0 := tok4.out
       refine (hDl.out _ (hTl.out.below hB.out)).mono ?_
       rintro e w6 ⟨v6, rfl, hT6, hb6⟩
       obtain ⟨v6a, v6n, v6c, rfl⟩ : ∃ a n c, v6 = .slice a n c := (by obtain ⟨a, c, h, -⟩ := hT6; exact ⟨a, _, c, h⟩)
       replace hB := Lib.hid (belowT hB.out hb6)
       replace hT6 := Lib.hid hT6
       clear tok4 m0 hb6
       have tok5 := Lib.hid True.intro)
    | (go_at_call 8
       have m0 := tok5.out
       refine (hEx.out _ _ (hT6.out.below (below1 _ _))).mono ?_
       rintro e w7 ⟨v7, rfl, hT7, hb7⟩
       obtain ⟨v7a, v7n, v7c, rfl⟩ : ∃ a n c, v7 = .slice a n c := (by obtain ⟨a, c, h, -⟩ := hT7; exact ⟨a, _, c, h⟩)
       obtain ⟨c7, -⟩ := bat hb7 w6.heap.size (by simp)
       have l7 : w6.heap.size < w7.heap.size := Nat.lt_of_lt_of_le (by simp) hb7.size
       have P6 := Lib.hid (belowT (below1 w6 _) hb7)
       replace hB := Lib.hid (belowT (belowA hB.out _) hb7)
       replace hT7 := Lib.hid hT7
       clear tok5 m0 hb7
       have tok6 := Lib.hid True.intro)
    | (go_at_call 19
       have m0 := tok6.out
       refine (hDx.out _ _ hT7.out).mono ?_
       rintro e w8 ⟨v8, rfl, hT8, hb8⟩
       obtain ⟨v8a, v8n, v8c, rfl⟩ : ∃ a n c, v8 = .slice a n c := (by obtain ⟨a, c, h, -⟩ := hT8; exact ⟨a, _, c, h⟩)
       obtain ⟨c8, -⟩ := bat hb8 w6.heap.size l7
       have l8 : w6.heap.size < w8.heap.size := Nat.lt_of_lt_of_le l7 hb8.size
       replace P6 := Lib.hid (belowT P6.out hb8)
       replace hB := Lib.hid (belowT hB.out hb8)
       replace hT8 := Lib.hid hT8
       clear tok6 m0 hb8)
    | (go_at_call 9
       refine (live6_any _).mono ?_
       rintro e w9 ⟨rfl, hb9⟩
       obtain ⟨c9, -⟩ := bat hb9 w6.heap.size (by simp <;> omega)
       obtain ⟨d9, -⟩ := bat hb9 w8.heap.size (by simp)
       have l9 : w6.heap.size < w9.heap.size := Nat.lt_of_lt_of_le (by simp <;> omega) hb9.size
       have m9 : w8.heap.size < w9.heap.size := Nat.lt_of_lt_of_le (by simp) hb9.size
       replace P6 := Lib.hid (belowT (belowA P6.out _) hb9)
       have P8 := Lib.hid (belowT (below1 w8 _) hb9)
       replace hB := Lib.hid (belowT (belowA hB.out _) hb9)
       clear hb9)
    | (go_at_call 10
       refine (hRx.out _ _ (hT6.out.below P6.out)).mono ?_
       rintro e w10 ⟨rfl, hb10⟩
       obtain ⟨c10, -⟩ := bat hb10 w6.heap.size l9
       obtain ⟨d10, -⟩ := bat hb10 w8.heap.size m9
       replace P6 := Lib.hid (belowT P6.out hb10)
       replace P8 := Lib.hid (belowT P8.out hb10)
       replace hB := Lib.hid (belowT hB.out hb10)
       clear hb10
       have tok7 := Lib.hid True.intro)
    | (go_at_call 20
       have m0 := tok7.out
       refine (hSx.out _ _ _ (hT6.out.below P6.out) (hT8.out.below P8.out)).mono ?_
       rintro e w11 ⟨rfl, hb11⟩
       replace hB := Lib.hid (belowT hB.out hb11)
       clear tok7 m0 hb11))
  go_ret
  exact ⟨rfl, hB.out⟩
set_option maxHeartbeats 4000000 in
theorem back_n_m (zf : Sz) (hzf : zf.small) (z : Sz) (sv v : Value) (l : List Tk) (w : World) (hz : zf = { z with pl := z.pl.take 70 }) (hT : TkS w sv z.pl) (hTl : TkS w v l) (hlB : ∀ tk ∈ l, tk.small ∧ tk.as.length * 32 ≤ 140737488351232) (hr : rightZ zf = false) (hm : 70 < l.length) :
    Calls Try.prog 5 #[szV z sv, v] w fun e w' => e = .returned (.bool true) ∧ Below w.heap.size w w' := by
  have hfew : Hid (∀ W, Calls Try.prog 11 #[szV z sv] W fun e w' => ∃ sv', e = .returned (szV zf sv') ∧ TkS w sv' zf.pl ∧ Below W.heap.size W w') := Lib.hid fun W => by subst hz; exact fewZ_any z sv w W hT
  have hEnc : Hid (∀ W sv', TkS W sv' zf.pl → Calls Try.prog 8 #[szV zf sv'] W fun e w' => ∃ v, e = .returned (.tuple #[v, .int .i64 3]) ∧ TkS w' v [] ∧ Below W.heap.size W w') := Lib.hid fun W sv' h => by
    have := encode_any zf sv' W h hzf
    unfold encL at this
    rw [hr] at this
    exact this
  obtain ⟨sa, sn, sc, rfl⟩ : ∃ a n c, sv = .slice a n c := by obtain ⟨a, c, h, -⟩ := hT; exact ⟨a, _, c, h⟩
  obtain ⟨va, vc, rfl, hlc, hlm, -⟩ : ∃ a c, v = .slice a l.length c ∧ l.length ≤ c ∧ c ≤ maxLen ∧ True := by obtain ⟨a, c, h, h1, h2, -⟩ := hTl; exact ⟨a, c, h, h1, h2, trivial⟩
  have hl9 : (l.length : Int) ≤ 9223372036854775807 := by unfold maxLen at hlm; omega
  have hmI : (70 : Int) < l.length := by omega
  replace hTl := Lib.hid hTl
  clear hT hlB hz hr hzf
  unfold szV at *
  obtain ⟨zk, zt, zr, zo, zi, zp⟩ := z
  obtain ⟨fk, ft, fr, fo, fi, fp⟩ := zf
  simp only at *
  generalize l.length = n at *
  go_enter Try.func5, Try.ntmps5
  go_upto_region 2 with (go_at_call 11; refine (hfew.out _).mono ?_; rintro e w1 ⟨f', rfl, hTf, hb1⟩; obtain ⟨fa, fn, fc, rfl⟩ : ∃ a n c, f' = .slice a n c := (by obtain ⟨a, c, h, -⟩ := hTf; exact ⟨a, _, c, h⟩); obtain ⟨h1c, h1z⟩ := bat hb1 w.heap.size (by simp))
  have hObj := set6_obj ((hb1.block _ (by simp)).trans (heap_alloc w _).1) (.int .u8 fk) (.string ⟨ft.toArray⟩) (.string ⟨fr.toArray⟩) (.string ⟨fo.toArray⟩) (.string ⟨fi.toArray⟩) (.slice fa fn fc)
  have hB : Hid (Below w.heap.size w ((((((w1.setCell ⟨w.heap.size, 0, none⟩ (.int .u8 fk)).setCell ⟨w.heap.size, 1, none⟩ (.string ⟨ft.toArray⟩)).setCell ⟨w.heap.size, 2, none⟩ (.string ⟨fr.toArray⟩)).setCell ⟨w.heap.size, 3, none⟩ (.string ⟨fo.toArray⟩)).setCell ⟨w.heap.size, 4, none⟩ (.string ⟨fi.toArray⟩)).setCell ⟨w.heap.size, 5, none⟩ (.slice fa fn fc))) := Lib.hid (set6 (below1t hb1) (Nat.le_refl _) _ _ _ _ _ _)
  generalize ((((((w1.setCell ⟨w.heap.size, 0, none⟩ (.int .u8 fk)).setCell ⟨w.heap.size, 1, none⟩ (.string ⟨ft.toArray⟩)).setCell ⟨w.heap.size, 2, none⟩ (.string ⟨fr.toArray⟩)).setCell ⟨w.heap.size, 3, none⟩ (.string ⟨fo.toArray⟩)).setCell ⟨w.heap.size, 4, none⟩ (.string ⟨fi.toArray⟩)).setCell ⟨w.heap.size, 5, none⟩ (.slice fa fn fc)) = W1 at hObj hB ⊢
  obtain ⟨xc, -, xl⟩ := obj_cells hObj
  clear hObj h1c h1z hb1 w1
  replace hTf := Lib.hid hTf
  have tok1 := Lib.hid True.intro
  go_wp2_with (first
    | (go_at_call 8
       have m0 := tok1.out
       refine (hEnc.out _ _ (hTf.out.below hB.out)).mono ?_
       rintro e w2 ⟨v2, rfl, hT2, hb2⟩
       obtain ⟨v2a, v2n, v2c, rfl⟩ : ∃ a n c, v2 = .slice a n c := (by obtain ⟨a, c, h, -⟩ := hT2; exact ⟨a, _, c, h⟩)
       obtain ⟨c2, -⟩ := bat hb2 w.heap.size xl
       have l2 : w.heap.size < w2.heap.size := Nat.lt_of_lt_of_le xl hb2.size
       replace hB := Lib.hid (belowT hB.out hb2)
       replace hT2 := Lib.hid hT2
       clear tok1 m0 hb2
       have tok2 := Lib.hid True.intro)
    | (go_at_call 9
       refine (live6_any _).mono ?_
       rintro e w9 ⟨rfl, hb9⟩
       replace hB := Lib.hid (belowT hB.out hb9)))
  go_ret
  exact ⟨rfl, hB.out⟩
set_option maxHeartbeats 4000000 in
theorem back_n_n (zf : Sz) (hzf : zf.small) (z : Sz) (sv v : Value) (l : List Tk) (w : World) (hz : zf = { z with pl := z.pl.take 70 }) (hT : TkS w sv z.pl) (hTl : TkS w v l) (hlB : ∀ tk ∈ l, tk.small ∧ tk.as.length * 32 ≤ 140737488351232) (hr : rightZ zf = false) (hm : l.length ≤ 70) (hd : decZ l = none) :
    Calls Try.prog 5 #[szV z sv, v] w fun e w' => e = .returned (.bool true) ∧ Below w.heap.size w w' := by
  have hfew : Hid (∀ W, Calls Try.prog 11 #[szV z sv] W fun e w' => ∃ sv', e = .returned (szV zf sv') ∧ TkS w sv' zf.pl ∧ Below W.heap.size W w') := Lib.hid fun W => by subst hz; exact fewZ_any z sv w W hT
  have hEnc : Hid (∀ W sv', TkS W sv' zf.pl → Calls Try.prog 8 #[szV zf sv'] W fun e w' => ∃ v, e = .returned (.tuple #[v, .int .i64 3]) ∧ TkS w' v [] ∧ Below W.heap.size W w') := Lib.hid fun W sv' h => by
    have := encode_any zf sv' W h hzf
    unfold encL at this
    rw [hr] at this
    exact this
  have hDl : Hid (∀ W, TkS W v l → Calls Try.prog 19 #[v] W fun e w' => ∃ a c, e = .returned (.tuple #[.agg #[.int .u8 0, .string ⟨#[]⟩, .string ⟨#[]⟩, .string ⟨#[]⟩, .string ⟨#[]⟩, .slice a 0 c], .int .i64 3]) ∧ Below W.heap.size W w') := Lib.hid fun W h => by
    refine (decode_any v _ W h hlB (by omega)).mono ?_
    rintro e w1 ⟨sv, z', rfl, hz', hT', hb⟩
    rw [hd] at hz' ⊢
    obtain rfl : zero0 = z' := hz'
    obtain ⟨a, c, rfl, -⟩ := hT'
    exact ⟨a, c, rfl, hb⟩
  obtain ⟨sa, sn, sc, rfl⟩ : ∃ a n c, sv = .slice a n c := by obtain ⟨a, c, h, -⟩ := hT; exact ⟨a, _, c, h⟩
  obtain ⟨va, vc, rfl, hlc, hlm, -⟩ : ∃ a c, v = .slice a l.length c ∧ l.length ≤ c ∧ c ≤ maxLen ∧ True := by obtain ⟨a, c, h, h1, h2, -⟩ := hTl; exact ⟨a, c, h, h1, h2, trivial⟩
  have hl9 : (l.length : Int) ≤ 9223372036854775807 := by unfold maxLen at hlm; omega
  have hmI : ¬ (70 : Int) < l.length := by omega
  replace hTl := Lib.hid hTl
  clear hT hlB hz hr hzf hd
  unfold szV at *
  obtain ⟨zk, zt, zr, zo, zi, zp⟩ := z
  obtain ⟨fk, ft, fr, fo, fi, fp⟩ := zf
  simp only at *
  generalize l.length = n at *
  go_enter Try.func5, Try.ntmps5
  go_upto_region 2 with (go_at_call 11; refine (hfew.out _).mono ?_; rintro e w1 ⟨f', rfl, hTf, hb1⟩; obtain ⟨fa, fn, fc, rfl⟩ : ∃ a n c, f' = .slice a n c := (by obtain ⟨a, c, h, -⟩ := hTf; exact ⟨a, _, c, h⟩); obtain ⟨h1c, h1z⟩ := bat hb1 w.heap.size (by simp))
  have hObj := set6_obj ((hb1.block _ (by simp)).trans (heap_alloc w _).1) (.int .u8 fk) (.string ⟨ft.toArray⟩) (.string ⟨fr.toArray⟩) (.string ⟨fo.toArray⟩) (.string ⟨fi.toArray⟩) (.slice fa fn fc)
  have hB : Hid (Below w.heap.size w ((((((w1.setCell ⟨w.heap.size, 0, none⟩ (.int .u8 fk)).setCell ⟨w.heap.size, 1, none⟩ (.string ⟨ft.toArray⟩)).setCell ⟨w.heap.size, 2, none⟩ (.string ⟨fr.toArray⟩)).setCell ⟨w.heap.size, 3, none⟩ (.string ⟨fo.toArray⟩)).setCell ⟨w.heap.size, 4, none⟩ (.string ⟨fi.toArray⟩)).setCell ⟨w.heap.size, 5, none⟩ (.slice fa fn fc))) := Lib.hid (set6 (below1t hb1) (Nat.le_refl _) _ _ _ _ _ _)
  generalize ((((((w1.setCell ⟨w.heap.size, 0, none⟩ (.int .u8 fk)).setCell ⟨w.heap.size, 1, none⟩ (.string ⟨ft.toArray⟩)).setCell ⟨w.heap.size, 2, none⟩ (.string ⟨fr.toArray⟩)).setCell ⟨w.heap.size, 3, none⟩ (.string ⟨fo.toArray⟩)).setCell ⟨w.heap.size, 4, none⟩ (.string ⟨fi.toArray⟩)).setCell ⟨w.heap.size, 5, none⟩ (.slice fa fn fc)) = W1 at hObj hB ⊢
  obtain ⟨xc, -, xl⟩ := obj_cells hObj
  clear hObj h1c h1z hb1 w1
  replace hTf := Lib.hid hTf
  have tok1 := Lib.hid True.intro
  go_wp2_with (first
    | (go_at_call 8
       have m0 := tok1.out
       refine (hEnc.out _ _ (hTf.out.below hB.out)).mono ?_
       rintro e w2 ⟨v2, rfl, hT2, hb2⟩
       obtain ⟨v2a, v2n, v2c, rfl⟩ : ∃ a n c, v2 = .slice a n c := (by obtain ⟨a, c, h, -⟩ := hT2; exact ⟨a, _, c, h⟩)
       obtain ⟨c2, -⟩ := bat hb2 w.heap.size xl
       have l2 : w.heap.size < w2.heap.size := Nat.lt_of_lt_of_le xl hb2.size
       replace hB := Lib.hid (belowT hB.out hb2)
       replace hT2 := Lib.hid hT2
       clear tok1 m0 hb2
       have tok2 := Lib.hid True.intro)
    | (go_at_call 19
       have m0 := tok2.out
       refine (hDl.out _ (hTl.out.below hB.out)).mono ?_
       rintro e w6 ⟨v6a, v6c, rfl, hb6⟩
       replace hB := Lib.hid (belowT hB.out hb6)
       clear tok2 m0 hb6)
    | (go_at_call 9
       refine (live6_any _).mono ?_
       rintro e w9 ⟨rfl, hb9⟩
       obtain ⟨c9, -⟩ := bat hb9 w6.heap.size (by simp)
       replace hB := Lib.hid (belowT (belowA hB.out _) hb9)))
  go_ret
  exact ⟨rfl, hB.out⟩
set_option maxHeartbeats 4000000 in
theorem back_n_s (zf : Sz) (hzf : zf.small) (z : Sz) (sv v : Value) (l : List Tk) (w : World) (hz : zf = { z with pl := z.pl.take 70 }) (hT : TkS w sv z.pl) (hTl : TkS w v l) (hlB : ∀ tk ∈ l, tk.small ∧ tk.as.length * 32 ≤ 140737488351232) (hr : rightZ zf = false) (hm : l.length ≤ 70) (x : Sz) (hd : decZ l = some x) :
    Calls Try.prog 5 #[szV z sv, v] w fun e w' => e = .returned (.bool true) ∧ Below w.heap.size w w' := by
  have hfew : Hid (∀ W, Calls Try.prog 11 #[szV z sv] W fun e w' => ∃ sv', e = .returned (szV zf sv') ∧ TkS w sv' zf.pl ∧ Below W.heap.size W w') := Lib.hid fun W => by subst hz; exact fewZ_any z sv w W hT
  have hEnc : Hid (∀ W sv', TkS W sv' zf.pl → Calls Try.prog 8 #[szV zf sv'] W fun e w' => ∃ v, e = .returned (.tuple #[v, .int .i64 3]) ∧ TkS w' v [] ∧ Below W.heap.size W w') := Lib.hid fun W sv' h => by
    have := encode_any zf sv' W h hzf
    unfold encL at this
    rw [hr] at this
    exact this
  have hxr := dec_right hd
  have hxs := dec_small hlB (by omega) hd
  have hDl : Hid (∀ W, TkS W v l → Calls Try.prog 19 #[v] W fun e w' => ∃ sv, e = .returned (.tuple #[szV x sv, .int .i64 0]) ∧ TkS w' sv x.pl ∧ Below W.heap.size W w') := Lib.hid fun W h => by
    refine (decode_any v _ W h hlB (by omega)).mono ?_
    rintro e w1 ⟨sv, z', rfl, hz', hT', hb⟩
    rw [hd] at hz' ⊢
    obtain rfl : x = z' := hz'
    exact ⟨sv, rfl, hT', hb⟩
  have hEx : Hid (∀ W sv', TkS W sv' x.pl → Calls Try.prog 8 #[szV x sv'] W fun e w' => ∃ v, e = .returned (.tuple #[v, .int .i64 0]) ∧ TkS w' v (tokensZ x) ∧ Below W.heap.size W w') := Lib.hid fun W sv' h => by
    have := encode_any x sv' W h hxs
    unfold encL at this
    rw [hxr] at this
    exact this
  have hDx : Hid (∀ W v, TkS W v (tokensZ x) → Calls Try.prog 19 #[v] W fun e w' => ∃ sv, e = .returned (.tuple #[szV x sv, .int .i64 0]) ∧ TkS w' sv x.pl ∧ Below W.heap.size W w') := Lib.hid fun W v h => by
    refine (decode_any v _ W h (tokens_ok hxs) (by have := right_len hxr; omega)).mono ?_
    rintro e w1 ⟨sv, z', rfl, hz', hT', hb⟩
    rw [dec_tokens hxr] at hz' ⊢
    obtain rfl : x = z' := hz'
    exact ⟨sv, rfl, hT', hb⟩
  have hRx : Hid (∀ W sv', TkS W sv' x.pl → Calls Try.prog 10 #[szV x sv'] W fun e w' => e = .returned (.bool true) ∧ Below W.heap.size W w') := Lib.hid fun W sv' h => by
    have := right_any6 x sv' W h hxs
    rw [hxr] at this
    exact this
  have hSx : Hid (∀ W v1 v2, TkS W v1 x.pl → TkS W v2 x.pl → Calls Try.prog 20 #[szV x v1, szV x v2] W fun e w' => e = .returned (.bool true) ∧ Below W.heap.size W w') := Lib.hid fun W v1 v2 h1 h2 => by
    have := sameZ_any x x v1 v2 W h1 h2
    rw [sameZ_refl] at this
    exact this
  clear hxr hxs
  obtain ⟨sa, sn, sc, rfl⟩ : ∃ a n c, sv = .slice a n c := by obtain ⟨a, c, h, -⟩ := hT; exact ⟨a, _, c, h⟩
  obtain ⟨va, vc, rfl, hlc, hlm, -⟩ : ∃ a c, v = .slice a l.length c ∧ l.length ≤ c ∧ c ≤ maxLen ∧ True := by obtain ⟨a, c, h, h1, h2, -⟩ := hTl; exact ⟨a, c, h, h1, h2, trivial⟩
  have hl9 : (l.length : Int) ≤ 9223372036854775807 := by unfold maxLen at hlm; omega
  have hmI : ¬ (70 : Int) < l.length := by omega
  replace hTl := Lib.hid hTl
  clear hT hlB hz hr hzf hd
  unfold szV at *
  obtain ⟨zk, zt, zr, zo, zi, zp⟩ := z
  obtain ⟨fk, ft, fr, fo, fi, fp⟩ := zf
  obtain ⟨xk, xt, xr, xo, xi, xp⟩ := x
  simp only at *
  generalize l.length = n at *
  go_enter Try.func5, Try.ntmps5
  go_upto_region 2 with (go_at_call 11; refine (hfew.out _).mono ?_; rintro e w1 ⟨f', rfl, hTf, hb1⟩; obtain ⟨fa, fn, fc, rfl⟩ : ∃ a n c, f' = .slice a n c := (by obtain ⟨a, c, h, -⟩ := hTf; exact ⟨a, _, c, h⟩); obtain ⟨h1c, h1z⟩ := bat hb1 w.heap.size (by simp))
  have hObj := set6_obj ((hb1.block _ (by simp)).trans (heap_alloc w _).1) (.int .u8 fk) (.string ⟨ft.toArray⟩) (.string ⟨fr.toArray⟩) (.string ⟨fo.toArray⟩) (.string ⟨fi.toArray⟩) (.slice fa fn fc)
  have hB : Hid (Below w.heap.size w ((((((w1.setCell ⟨w.heap.size, 0, none⟩ (.int .u8 fk)).setCell ⟨w.heap.size, 1, none⟩ (.string ⟨ft.toArray⟩)).setCell ⟨w.heap.size, 2, none⟩ (.string ⟨fr.toArray⟩)).setCell ⟨w.heap.size, 3, none⟩ (.string ⟨fo.toArray⟩)).setCell ⟨w.heap.size, 4, none⟩ (.string ⟨fi.toArray⟩)).setCell ⟨w.heap.size, 5, none⟩ (.slice fa fn fc))) := Lib.hid (set6 (below1t hb1) (Nat.le_refl _) _ _ _ _ _ _)
  generalize ((((((w1.setCell ⟨w.heap.size, 0, none⟩ (.int .u8 fk)).setCell ⟨w.heap.size, 1, none⟩ (.string ⟨ft.toArray⟩)).setCell ⟨w.heap.size, 2, none⟩ (.string ⟨fr.toArray⟩)).setCell ⟨w.heap.size, 3, none⟩ (.string ⟨fo.toArray⟩)).setCell ⟨w.heap.size, 4, none⟩ (.string ⟨fi.toArray⟩)).setCell ⟨w.heap.size, 5, none⟩ (.slice fa fn fc)) = W1 at hObj hB ⊢
  obtain ⟨xc, -, xl⟩ := obj_cells hObj
  clear hObj h1c h1z hb1 w1
  replace hTf := Lib.hid hTf
  have tok1 := Lib.hid True.intro
  go_wp2_with (first
    | (go_at_call 8
       have m0 := tok1.out
       refine (hEnc.out _ _ (hTf.out.below hB.out)).mono ?_
       rintro e w2 ⟨v2, rfl, hT2, hb2⟩
       obtain ⟨v2a, v2n, v2c, rfl⟩ : ∃ a n c, v2 = .slice a n c := (by obtain ⟨a, c, h, -⟩ := hT2; exact ⟨a, _, c, h⟩)
       obtain ⟨c2, -⟩ := bat hb2 w.heap.size xl
       have l2 : w.heap.size < w2.heap.size := Nat.lt_of_lt_of_le xl hb2.size
       replace hB := Lib.hid (belowT hB.out hb2)
       replace hT2 := Lib.hid hT2
       clear tok1 m0 hb2
       have tok2 := Lib.hid True.intro)
    | (go_at_call 19
       have m0 := tok2.out
       refine (hDl.out _ (hTl.out.below hB.out)).mono ?_
       rintro e w6 ⟨v6, rfl, hT6, hb6⟩
       obtain ⟨v6a, v6n, v6c, rfl⟩ : ∃ a n c, v6 = .slice a n c := (by obtain ⟨a, c, h, -⟩ := hT6; exact ⟨a, _, c, h⟩)
       replace hB := Lib.hid (belowT hB.out hb6)
       replace hT6 := Lib.hid hT6
       clear tok2 m0 hb6
       have tok5 := Lib.hid True.intro)
    | (go_at_call 8
       have m0 := tok5.out
       refine (hEx.out _ _ (hT6.out.below (below1 _ _))).mono ?_
       rintro e w7 ⟨v7, rfl, hT7, hb7⟩
       obtain ⟨v7a, v7n, v7c, rfl⟩ : ∃ a n c, v7 = .slice a n c := (by obtain ⟨a, c, h, -⟩ := hT7; exact ⟨a, _, c, h⟩)
       obtain ⟨c7, -⟩ := bat hb7 w6.heap.size (by simp)
       have l7 : w6.heap.size < w7.heap.size := Nat.lt_of_lt_of_le (by simp) hb7.size
       have P6 := Lib.hid (belowT (below1 w6 _) hb7)
       replace hB := Lib.hid (belowT (belowA hB.out _) hb7)
       replace hT7 := Lib.hid hT7
       clear tok5 m0 hb7
       have tok6 := Lib.hid True.intro)
    | (go_at_call 19
       have m0 := tok6.out
       refine (hDx.out _ _ hT7.out).mono ?_
       rintro e w8 ⟨v8, rfl, hT8, hb8⟩
       obtain ⟨v8a, v8n, v8c, rfl⟩ : ∃ a n c, v8 = .slice a n c := (by obtain ⟨a, c, h, -⟩ := hT8; exact ⟨a, _, c, h⟩)
       obtain ⟨c8, -⟩ := bat hb8 w6.heap.size l7
       have l8 : w6.heap.size < w8.heap.size := Nat.lt_of_lt_of_le l7 hb8.size
       replace P6 := Lib.hid (belowT P6.out hb8)
       replace hB := Lib.hid (belowT hB.out hb8)
       replace hT8 := Lib.hid hT8
       clear tok6 m0 hb8)
    | (go_at_call 9
       refine (live6_any _).mono ?_
       rintro e w9 ⟨rfl, hb9⟩
       obtain ⟨c9, -⟩ := bat hb9 w6.heap.size (by simp <;> omega)
       obtain ⟨d9, -⟩ := bat hb9 w8.heap.size (by simp)
       have l9 : w6.heap.size < w9.heap.size := Nat.lt_of_lt_of_le (by simp <;> omega) hb9.size
       have m9 : w8.heap.size < w9.heap.size := Nat.lt_of_lt_of_le (by simp) hb9.size
       replace P6 := Lib.hid (belowT (belowA P6.out _) hb9)
       have P8 := Lib.hid (belowT (below1 w8 _) hb9)
       replace hB := Lib.hid (belowT (belowA hB.out _) hb9)
       clear hb9)
    | (go_at_call 10
       refine (hRx.out _ _ (hT6.out.below P6.out)).mono ?_
       rintro e w10 ⟨rfl, hb10⟩
       obtain ⟨c10, -⟩ := bat hb10 w6.heap.size l9
       obtain ⟨d10, -⟩ := bat hb10 w8.heap.size m9
       replace P6 := Lib.hid (belowT P6.out hb10)
       replace P8 := Lib.hid (belowT P8.out hb10)
       replace hB := Lib.hid (belowT hB.out hb10)
       clear hb10
       have tok7 := Lib.hid True.intro)
    | (go_at_call 20
       have m0 := tok7.out
       refine (hSx.out _ _ _ (hT6.out.below P6.out) (hT8.out.below P8.out)).mono ?_
       rintro e w11 ⟨rfl, hb11⟩
       replace hB := Lib.hid (belowT hB.out hb11)
       clear tok7 m0 hb11))
  go_ret
  exact ⟨rfl, hB.out⟩
theorem stanzaBack_walk (z : Sz) (sv v : Value) (l : List Tk) (w : World) (h1 : TkS w sv z.pl) (h2 : z.smallF) (h3 : TksB 140737488351232 z.pl) (_ : z.k < 256) (h4 : TkS w v l) (h5 : TksB 140737488351232 l) :
    Calls Try.prog 5 #[szV z sv, v] w fun e w' => e = .returned (.bool true) ∧ Below w.heap.size w w' := by
  cases hr : rightZ { z with pl := z.pl.take 70 }
  · by_cases hm : 70 < l.length
    · exact back_n_m _ (small_cut h2 h3) z sv v l w rfl h1 h4 (small_of h5) hr hm
    · cases hd : decZ l with
      | none => exact back_n_n _ (small_cut h2 h3) z sv v l w rfl h1 h4 (small_of h5) hr (by omega) hd
      | some x => exact back_n_s _ (small_cut h2 h3) z sv v l w rfl h1 h4 (small_of h5) hr (by omega) x hd
  · by_cases hm : 70 < l.length
    · exact back_y_m _ (small_cut h2 h3) z sv v l w rfl h1 h4 (small_of h5) hr hm
    · cases hd : decZ l with
      | none => exact back_y_n _ (small_cut h2 h3) z sv v l w rfl h1 h4 (small_of h5) hr (by omega) hd
      | some x => exact back_y_s _ (small_cut h2 h3) z sv v l w rfl h1 h4 (small_of h5) hr (by omega) x hd
end Go.Proofs.Ytpgojinfhfipeaa
