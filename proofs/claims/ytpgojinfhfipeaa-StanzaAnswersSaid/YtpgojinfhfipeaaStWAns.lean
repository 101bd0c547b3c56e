/-
  The walk of StanzaAnswers. (Printed by wip/tools/genans.py.)
-/
import Derived.Test.YtpgojinfhfipeaaStRow
import Derived.Test.YtpgojinfhfipeaaStRef2
namespace Go.Proofs.Ytpgojinfhfipeaa
set_option linter.unusedVariables false
set_option linter.unusedSimpArgs false
open Go.RowKit Go.MapKept
theorem TkS.cut70 {w : World} {p : Option Addr} {c : Nat} {l : List Tk} (h : TkS w (.slice p l.length c) l) (h70 : 70 < l.length) : TkS w (.slice p 70 c) (l.take 70) := by
  obtain ⟨ptr, cap, he, hcap, hcapm, htk⟩ := h
  injection he with e1 e2 e3
  subst e1 e3
  refine ⟨_, _, by rw [List.length_take, show min 70 l.length = 70 by omega], by rw [List.length_take]; omega, hcapm, fun _ => ?_⟩
  obtain ⟨b, o, e, hb, hc⟩ := htk (by omega)
  refine ⟨b, o, e, hb, fun i hi => ?_⟩
  rw [List.length_take] at hi
  rw [List.getElem_take]
  exact hc i (by omega)
set_option maxHeartbeats 4000000 in
theorem answers_m (zf : Sz) (z : Sz) (sv v : Value) (l L : List Tk) (c : Int) (w : World) (hz : zf = { z with pl := z.pl.take 70 }) (hT : TkS w sv z.pl) (hTl : TkS w v l) (hL : L = l.take 70) (hLl : L.length ≤ 70) (hat : ∀ tk ∈ L, tk.as.length * 32 ≤ 140737488351232) (hm : 70 < l.length) :
    Calls Try.prog 4 #[szV z sv, v, .int .i64 c] w fun e w' => e = .returned (.bool true) ∧ Below w.heap.size w w' := by
  have hfew : Hid (∀ W, Calls Try.prog 11 #[szV z sv] W fun e w' => ∃ sv', e = .returned (szV zf sv') ∧ TkS w sv' zf.pl ∧ Below W.heap.size W w') := Lib.hid fun W => by subst hz; exact fewZ_any z sv w W hT
  have hF1 : Hid (∀ W sv', TkS W sv' zf.pl → Calls Try.prog 12 #[szV zf sv'] W fun e w' => e = .returned (.tuple #[.int .i64 (failZ zf), .bool (knownB (failZ zf))]) ∧ Below W.heap.size W w') := Lib.hid fun W sv' h => failed_any zf sv' W h
  have hF2 : Hid (∀ W sv', TkS W sv' zf.pl → Calls Try.prog 13 #[szV zf sv'] W fun e w' => e = .returned (.tuple #[.int .i64 (failZ zf), .bool (knownB (failZ zf))]) ∧ Below W.heap.size W w') := Lib.hid fun W sv' h => failed0_any zf sv' W h
  have hR1 : Hid (∀ W a n c' pv, TkS W pv L → Calls Try.prog 15 #[szV zf (.slice a n c'), pv] W fun e w' => ∃ sv', e = .returned (szV (resZ zf L) sv') ∧ TkS w' sv' L ∧ Below W.heap.size W w') := Lib.hid fun W a n c' pv h => (result_any zf _ pv L W h (by omega) hat ⟨a, n, c', rfl⟩).mono fun _ _ ⟨v, h1, h2, h3⟩ => ⟨v, h1, h2.tks, h3⟩
  have hR2 : Hid (∀ W a n c' pv, TkS W pv L → Calls Try.prog 16 #[szV zf (.slice a n c'), pv] W fun e w' => ∃ sv', e = .returned (szV (resZ zf L) sv') ∧ TkS w' sv' L ∧ Below W.heap.size W w') := Lib.hid fun W a n c' pv h => (result0_any zf _ pv L W h (by omega) hat ⟨a, n, c', rfl⟩).mono fun _ _ ⟨v, h1, h2, h3⟩ => ⟨v, h1, h2.tks, h3⟩
  have hE1 : Hid (∀ W a n c', Calls Try.prog 17 #[szV zf (.slice a n c'), .int .i64 c] W fun e w' => ∃ sv', e = .returned (szV (errZ zf c) sv') ∧ TkS w' sv' (errZ zf c).pl ∧ Below W.heap.size W w') := Lib.hid fun W a n c' => (error_any zf _ c W ⟨a, n, c', rfl⟩).mono fun _ _ ⟨v, h1, h2, h3⟩ => ⟨v, h1, h2.tks, h3⟩
  have hE2 : Hid (∀ W a n c', Calls Try.prog 18 #[szV zf (.slice a n c'), .int .i64 c] W fun e w' => ∃ sv', e = .returned (szV (errZ zf c) sv') ∧ TkS w' sv' (errZ zf c).pl ∧ Below W.heap.size W w') := Lib.hid fun W a n c' => (error0_any zf _ c W ⟨a, n, c', rfl⟩).mono fun _ _ ⟨v, h1, h2, h3⟩ => ⟨v, h1, h2.tks, h3⟩
  have hS1 : Hid (∀ W v1 v2, TkS W v1 L → TkS W v2 L → Calls Try.prog 14 #[szV (resZ zf L) v1, szV (resZ zf L) v2] W fun e w' => e = .returned (.bool true) ∧ Below W.heap.size W w') := Lib.hid fun W v1 v2 h1 h2 => by
    have := same06_any (resZ zf L) (resZ zf L) v1 v2 W h1 h2
    rw [sameZ_refl] at this
    exact this
  have hS2 : Hid (∀ W v1 v2, TkS W v1 (errZ zf c).pl → TkS W v2 (errZ zf c).pl → Calls Try.prog 14 #[szV (errZ zf c) v1, szV (errZ zf c) v2] W fun e w' => e = .returned (.bool true) ∧ Below W.heap.size W w') := Lib.hid fun W v1 v2 h1 h2 => by
    have := same06_any (errZ zf c) (errZ zf c) v1 v2 W h1 h2
    rw [sameZ_refl] at this
    exact this
  obtain ⟨sa, sn, sc, rfl⟩ : ∃ a n c, sv = .slice a n c := by obtain ⟨a, c, h, -⟩ := hT; exact ⟨a, _, c, h⟩
  obtain ⟨va, vc, rfl, hlc, hlm, -⟩ : ∃ a c, v = .slice a l.length c ∧ l.length ≤ c ∧ c ≤ maxLen ∧ True := by obtain ⟨a, c, h, h1, h2, -⟩ := hTl; exact ⟨a, c, h, h1, h2, trivial⟩
  have hl9 : (l.length : Int) ≤ 9223372036854775807 := by unfold maxLen at hlm; omega
  have hmI : (70 : Int) < l.length := by omega
  have hTL : Hid (TkS w (.slice va 70 vc) L) := Lib.hid (by subst hL; exact hTl.cut70 hm)
  have hc7 : 70 ≤ vc := by omega
  have hZe : ∀ v, szV (errZ zf c) v = .agg #[.int .u8 zf.k, .string ⟨#[101, 114, 114, 111, 114]⟩, .string ⟨zf.tt.toArray⟩, .string ⟨zf.fr.toArray⟩, .string ⟨zf.id.toArray⟩, v] := fun v => rfl
  have hZr : ∀ v, szV (resZ zf L) v = .agg #[.int .u8 1, .string ⟨#[114, 101, 115, 117, 108, 116]⟩, .string ⟨zf.tt.toArray⟩, .string ⟨zf.fr.toArray⟩, .string ⟨zf.id.toArray⟩, v] := fun v => rfl
  simp only [hZe, hZr] at *
  generalize (errZ zf c).pl = PL at *
  generalize failZ zf = c0 at *
  clear hZe hZr hT hTl hat hz hL
  unfold szV at *
  obtain ⟨zk, zt, zr, zo, zi, zp⟩ := z
  obtain ⟨fk, ft, fr, fo, fi, fp⟩ := zf
  simp only at *
  generalize l.length = n at *
  go_enter Try.func4, Try.ntmps4
  go_upto_region 2 with (go_at_call 11; refine (hfew.out _).mono ?_; rintro e w1 ⟨f', rfl, hTf, hb1⟩; obtain ⟨fa, fn, fc, rfl⟩ : ∃ a n c, f' = .slice a n c := (by obtain ⟨a, c, h, -⟩ := hTf; exact ⟨a, _, c, h⟩); obtain ⟨h1c, h1z⟩ := bat hb1 w.heap.size (by simp))
  have hObj := set6_obj ((hb1.block _ (by simp)).trans (heap_alloc w _).1) (.int .u8 fk) (.string ⟨ft.toArray⟩) (.string ⟨fr.toArray⟩) (.string ⟨fo.toArray⟩) (.string ⟨fi.toArray⟩) (.slice fa fn fc)
  have hB : Hid (Below w.heap.size w ((((((w1.setCell ⟨w.heap.size, 0, none⟩ (.int .u8 fk)).setCell ⟨w.heap.size, 1, none⟩ (.string ⟨ft.toArray⟩)).setCell ⟨w.heap.size, 2, none⟩ (.string ⟨fr.toArray⟩)).setCell ⟨w.heap.size, 3, none⟩ (.string ⟨fo.toArray⟩)).setCell ⟨w.heap.size, 4, none⟩ (.string ⟨fi.toArray⟩)).setCell ⟨w.heap.size, 5, none⟩ (.slice fa fn fc))) := Lib.hid (set6 (below1t hb1) (Nat.le_refl _) _ _ _ _ _ _)
  generalize ((((((w1.setCell ⟨w.heap.size, 0, none⟩ (.int .u8 fk)).setCell ⟨w.heap.size, 1, none⟩ (.string ⟨ft.toArray⟩)).setCell ⟨w.heap.size, 2, none⟩ (.string ⟨fr.toArray⟩)).setCell ⟨w.heap.size, 3, none⟩ (.string ⟨fo.toArray⟩)).setCell ⟨w.heap.size, 4, none⟩ (.string ⟨fi.toArray⟩)).setCell ⟨w.heap.size, 5, none⟩ (.slice fa fn fc)) = W1 at hObj hB ⊢
  obtain ⟨xc, -, xl⟩ := obj_cells hObj
  clear hObj h1c h1z hb1 w1
  replace hTf := Lib.hid hTf
  go_wp2_with (first
    | (go_at_call 12
       refine (hF1.out _ _ (hTf.out.below hB.out)).mono ?_
       rintro e w2 ⟨rfl, hb2⟩
       obtain ⟨c2, -⟩ := bat hb2 w.heap.size xl
       have l2 : w.heap.size < w2.heap.size := Nat.lt_of_lt_of_le xl hb2.size
       replace hB := Lib.hid (belowT hB.out hb2)
       clear hb2)
    | (go_at_call 13
       refine (hF2.out _ _ (hTf.out.below hB.out)).mono ?_
       rintro e w3 ⟨rfl, hb3⟩
       obtain ⟨c3, -⟩ := bat hb3 w.heap.size l2
       have l3 : w.heap.size < w3.heap.size := Nat.lt_of_lt_of_le l2 hb3.size
       replace hB := Lib.hid (belowT hB.out hb3)
       clear hb3))
  have yc := fun o => (c3 o).trans ((c2 o).trans (xc o))
  have hS0 : w3.drew.cell? ⟨w.heap.size, 0, none⟩ = some (.int .u8 fk) ∧ w3.drew.cell? ⟨w.heap.size, 1, none⟩ = some (.string ⟨ft.toArray⟩) ∧ w3.drew.cell? ⟨w.heap.size, 2, none⟩ = some (.string ⟨fr.toArray⟩) ∧ w3.drew.cell? ⟨w.heap.size, 3, none⟩ = some (.string ⟨fo.toArray⟩) ∧ w3.drew.cell? ⟨w.heap.size, 4, none⟩ = some (.string ⟨fi.toArray⟩) ∧ w3.drew.cell? ⟨w.heap.size, 5, none⟩ = some (.slice fa fn fc) ∧ w.heap.size < w3.drew.heap.size := ⟨yc 0, yc 1, yc 2, yc 3, yc 4, yc 5, l3⟩
  clear yc c3 c2 xc
  replace hB := Lib.hid (hB.out.drew)
  have tok1 := Lib.hid True.intro
  go_region_held3 (fun W => W.cell? ⟨w.heap.size, 0, none⟩ = some (.int .u8 fk) ∧ W.cell? ⟨w.heap.size, 1, none⟩ = some (.string ⟨ft.toArray⟩) ∧ W.cell? ⟨w.heap.size, 2, none⟩ = some (.string ⟨fr.toArray⟩) ∧ W.cell? ⟨w.heap.size, 3, none⟩ = some (.string ⟨fo.toArray⟩) ∧ W.cell? ⟨w.heap.size, 4, none⟩ = some (.string ⟨fi.toArray⟩) ∧ W.cell? ⟨w.heap.size, 5, none⟩ = some (.slice fa fn fc) ∧ w.heap.size < W.heap.size)
    (first | with_reducible assumption | with_reducible exact keepB6 (by assumption) hb10.out | with_reducible exact keepB6 (by assumption) hb9.out | with_reducible exact keepB6 (by assumption) hb8.out | with_reducible exact keepB6 (by assumption) hb7.out | with_reducible exact keepB6 (by assumption) hb6.out | with_reducible exact keepB6 (by assumption) hb5.out | with_reducible exact keepB6 (by assumption) hb4.out)
    (first
      | (go_at_call 9
         refine (live6_any _).mono ?_
         rintro e w4 ⟨rfl, hb4⟩
         replace hB := Lib.hid (belowT hB.out hb4)
         replace hb4 := Lib.hid hb4)
      | (go_at_call 15
         refine (hR1.out _ _ _ _ _ (hTL.out.below hB.out)).mono ?_
         rintro e w5 ⟨v5, rfl, hT5, hb5⟩
         obtain ⟨v5a, v5n, v5c, rfl⟩ : ∃ a n c, v5 = .slice a n c := (by obtain ⟨a, c, h, -⟩ := hT5; exact ⟨a, _, c, h⟩)
         replace hB := Lib.hid (belowT hB.out hb5)
         replace hT5 := Lib.hid hT5
         replace hb5 := Lib.hid hb5)
      | (go_at_call 16
         refine (hR2.out _ _ _ _ _ (hTL.out.below hB.out)).mono ?_
         rintro e w6 ⟨v6, rfl, hT6, hb6⟩
         obtain ⟨v6a, v6n, v6c, rfl⟩ : ∃ a n c, v6 = .slice a n c := (by obtain ⟨a, c, h, -⟩ := hT6; exact ⟨a, _, c, h⟩)
         replace hB := Lib.hid (belowT hB.out hb6)
         replace hT5 := Lib.hid (hT5.out.below hb6)
         replace hT6 := Lib.hid hT6
         replace hb6 := Lib.hid hb6)
      | (go_at_call 14
         have m0 := tok1.out
         refine (hS1.out _ _ _ hT5.out hT6.out).mono ?_
         rintro e w7 ⟨rfl, hb7⟩
         replace hB := Lib.hid (belowT hB.out hb7)
         replace hb7 := Lib.hid hb7
         clear tok1 m0
         have tok2 := Lib.hid True.intro)
      | (go_at_call 17
         refine (hE1.out _ _ _ _).mono ?_
         rintro e w8 ⟨v8, rfl, hT8, hb8⟩
         obtain ⟨v8a, v8n, v8c, rfl⟩ : ∃ a n c, v8 = .slice a n c := (by obtain ⟨a, c, h, -⟩ := hT8; exact ⟨a, _, c, h⟩)
         replace hB := Lib.hid (belowT hB.out hb8)
         replace hT8 := Lib.hid hT8
         replace hb8 := Lib.hid hb8)
      | (go_at_call 18
         refine (hE2.out _ _ _ _).mono ?_
         rintro e w9 ⟨v9, rfl, hT9, hb9⟩
         obtain ⟨v9a, v9n, v9c, rfl⟩ : ∃ a n c, v9 = .slice a n c := (by obtain ⟨a, c, h, -⟩ := hT9; exact ⟨a, _, c, h⟩)
         replace hB := Lib.hid (belowT hB.out hb9)
         replace hT8 := Lib.hid (hT8.out.below hb9)
         replace hT9 := Lib.hid hT9
         replace hb9 := Lib.hid hb9)
      | (go_at_call 14
         have m0 := tok2.out
         refine (hS2.out _ _ _ hT8.out hT9.out).mono ?_
         rintro e w10 ⟨rfl, hb10⟩
         replace hB := Lib.hid (belowT hB.out hb10)
         replace hb10 := Lib.hid hb10
         clear tok2 m0))
  all_goals go_wp2_with fail
  all_goals go_ret
  all_goals exact ⟨rfl, hB.out⟩
set_option maxHeartbeats 4000000 in
theorem answers_n (zf : Sz) (z : Sz) (sv v : Value) (l L : List Tk) (c : Int) (w : World) (hz : zf = { z with pl := z.pl.take 70 }) (hT : TkS w sv z.pl) (hTl : TkS w v l) (hL : L = l) (hLl : L.length ≤ 70) (hat : ∀ tk ∈ L, tk.as.length * 32 ≤ 140737488351232) (hm : l.length ≤ 70) :
    Calls Try.prog 4 #[szV z sv, v, .int .i64 c] w fun e w' => e = .returned (.bool true) ∧ Below w.heap.size w w' := by
  have hfew : Hid (∀ W, Calls Try.prog 11 #[szV z sv] W fun e w' => ∃ sv', e = .returned (szV zf sv') ∧ TkS w sv' zf.pl ∧ Below W.heap.size W w') := Lib.hid fun W => by subst hz; exact fewZ_any z sv w W hT
  have hF1 : Hid (∀ W sv', TkS W sv' zf.pl → Calls Try.prog 12 #[szV zf sv'] W fun e w' => e = .returned (.tuple #[.int .i64 (failZ zf), .bool (knownB (failZ zf))]) ∧ Below W.heap.size W w') := Lib.hid fun W sv' h => failed_any zf sv' W h
  have hF2 : Hid (∀ W sv', TkS W sv' zf.pl → Calls Try.prog 13 #[szV zf sv'] W fun e w' => e = .returned (.tuple #[.int .i64 (failZ zf), .bool (knownB (failZ zf))]) ∧ Below W.heap.size W w') := Lib.hid fun W sv' h => failed0_any zf sv' W h
  have hR1 : Hid (∀ W a n c' pv, TkS W pv L → Calls Try.prog 15 #[szV zf (.slice a n c'), pv] W fun e w' => ∃ sv', e = .returned (szV (resZ zf L) sv') ∧ TkS w' sv' L ∧ Below W.heap.size W w') := Lib.hid fun W a n c' pv h => (result_any zf _ pv L W h (by omega) hat ⟨a, n, c', rfl⟩).mono fun _ _ ⟨v, h1, h2, h3⟩ => ⟨v, h1, h2.tks, h3⟩
  have hR2 : Hid (∀ W a n c' pv, TkS W pv L → Calls Try.prog 16 #[szV zf (.slice a n c'), pv] W fun e w' => ∃ sv', e = .returned (szV (resZ zf L) sv') ∧ TkS w' sv' L ∧ Below W.heap.size W w') := Lib.hid fun W a n c' pv h => (result0_any zf _ pv L W h (by omega) hat ⟨a, n, c', rfl⟩).mono fun _ _ ⟨v, h1, h2, h3⟩ => ⟨v, h1, h2.tks, h3⟩
  have hE1 : Hid (∀ W a n c', Calls Try.prog 17 #[szV zf (.slice a n c'), .int .i64 c] W fun e w' => ∃ sv', e = .returned (szV (errZ zf c) sv') ∧ TkS w' sv' (errZ zf c).pl ∧ Below W.heap.size W w') := Lib.hid fun W a n c' => (error_any zf _ c W ⟨a, n, c', rfl⟩).mono fun _ _ ⟨v, h1, h2, h3⟩ => ⟨v, h1, h2.tks, h3⟩
  have hE2 : Hid (∀ W a n c', Calls Try.prog 18 #[szV zf (.slice a n c'), .int .i64 c] W fun e w' => ∃ sv', e = .returned (szV (errZ zf c) sv') ∧ TkS w' sv' (errZ zf c).pl ∧ Below W.heap.size W w') := Lib.hid fun W a n c' => (error0_any zf _ c W ⟨a, n, c', rfl⟩).mono fun _ _ ⟨v, h1, h2, h3⟩ => ⟨v, h1, h2.tks, h3⟩
  have hS1 : Hid (∀ W v1 v2, TkS W v1 L → TkS W v2 L → Calls Try.prog 14 #[szV (resZ zf L) v1, szV (resZ zf L) v2] W fun e w' => e = .returned (.bool true) ∧ Below W.heap.size W w') := Lib.hid fun W v1 v2 h1 h2 => by
    have := same06_any (resZ zf L) (resZ zf L) v1 v2 W h1 h2
    rw [sameZ_refl] at this
    exact this
  have hS2 : Hid (∀ W v1 v2, TkS W v1 (errZ zf c).pl → TkS W v2 (errZ zf c).pl → Calls Try.prog 14 #[szV (errZ zf c) v1, szV (errZ zf c) v2] W fun e w' => e = .returned (.bool true) ∧ Below W.heap.size W w') := Lib.hid fun W v1 v2 h1 h2 => by
    have := same06_any (errZ zf c) (errZ zf c) v1 v2 W h1 h2
    rw [sameZ_refl] at this
    exact this
  obtain ⟨sa, sn, sc, rfl⟩ : ∃ a n c, sv = .slice a n c := by obtain ⟨a, c, h, -⟩ := hT; exact ⟨a, _, c, h⟩
  obtain ⟨va, vc, rfl, hlc, hlm, -⟩ : ∃ a c, v = .slice a l.length c ∧ l.length ≤ c ∧ c ≤ maxLen ∧ True := by obtain ⟨a, c, h, h1, h2, -⟩ := hTl; exact ⟨a, c, h, h1, h2, trivial⟩
  have hl9 : (l.length : Int) ≤ 9223372036854775807 := by unfold maxLen at hlm; omega
  have hmI : ¬ (70 : Int) < l.length := by omega
  have hTL : Hid (TkS w (.slice va l.length vc) L) := Lib.hid (by subst hL; exact hTl)
  have hZe : ∀ v, szV (errZ zf c) v = .agg #[.int .u8 zf.k, .string ⟨#[101, 114, 114, 111, 114]⟩, .string ⟨zf.tt.toArray⟩, .string ⟨zf.fr.toArray⟩, .string ⟨zf.id.toArray⟩, v] := fun v => rfl
  have hZr : ∀ v, szV (resZ zf L) v = .agg #[.int .u8 1, .string ⟨#[114, 101, 115, 117, 108, 116]⟩, .string ⟨zf.tt.toArray⟩, .string ⟨zf.fr.toArray⟩, .string ⟨zf.id.toArray⟩, v] := fun v => rfl
  simp only [hZe, hZr] at *
  generalize (errZ zf c).pl = PL at *
  generalize failZ zf = c0 at *
  clear hZe hZr hT hTl hat hz hL
  unfold szV at *
  obtain ⟨zk, zt, zr, zo, zi, zp⟩ := z
  obtain ⟨fk, ft, fr, fo, fi, fp⟩ := zf
  simp only at *
  generalize l.length = n at *
  go_enter Try.func4, Try.ntmps4
  go_upto_region 2 with (go_at_call 11; refine (hfew.out _).mono ?_; rintro e w1 ⟨f', rfl, hTf, hb1⟩; obtain ⟨fa, fn, fc, rfl⟩ : ∃ a n c, f' = .slice a n c := (by obtain ⟨a, c, h, -⟩ := hTf; exact ⟨a, _, c, h⟩); obtain ⟨h1c, h1z⟩ := bat hb1 w.heap.size (by simp))
  have hObj := set6_obj ((hb1.block _ (by simp)).trans (heap_alloc w _).1) (.int .u8 fk) (.string ⟨ft.toArray⟩) (.string ⟨fr.toArray⟩) (.string ⟨fo.toArray⟩) (.string ⟨fi.toArray⟩) (.slice fa fn fc)
  have hB : Hid (Below w.heap.size w ((((((w1.setCell ⟨w.heap.size, 0, none⟩ (.int .u8 fk)).setCell ⟨w.heap.size, 1, none⟩ (.string ⟨ft.toArray⟩)).setCell ⟨w.heap.size, 2, none⟩ (.string ⟨fr.toArray⟩)).setCell ⟨w.heap.size, 3, none⟩ (.string ⟨fo.toArray⟩)).setCell ⟨w.heap.size, 4, none⟩ (.string ⟨fi.toArray⟩)).setCell ⟨w.heap.size, 5, none⟩ (.slice fa fn fc))) := Lib.hid (set6 (below1t hb1) (Nat.le_refl _) _ _ _ _ _ _)
  generalize ((((((w1.setCell ⟨w.heap.size, 0, none⟩ (.int .u8 fk)).setCell ⟨w.heap.size, 1, none⟩ (.string ⟨ft.toArray⟩)).setCell ⟨w.heap.size, 2, none⟩ (.string ⟨fr.toArray⟩)).setCell ⟨w.heap.size, 3, none⟩ (.string ⟨fo.toArray⟩)).setCell ⟨w.heap.size, 4, none⟩ (.string ⟨fi.toArray⟩)).setCell ⟨w.heap.size, 5, none⟩ (.slice fa fn fc)) = W1 at hObj hB ⊢
  obtain ⟨xc, -, xl⟩ := obj_cells hObj
  clear hObj h1c h1z hb1 w1
  replace hTf := Lib.hid hTf
  go_wp2_with (first
    | (go_at_call 12
       refine (hF1.out _ _ (hTf.out.below hB.out)).mono ?_
       rintro e w2 ⟨rfl, hb2⟩
       obtain ⟨c2, -⟩ := bat hb2 w.heap.size xl
       have l2 : w.heap.size < w2.heap.size := Nat.lt_of_lt_of_le xl hb2.size
       replace hB := Lib.hid (belowT hB.out hb2)
       clear hb2)
    | (go_at_call 13
       refine (hF2.out _ _ (hTf.out.below hB.out)).mono ?_
       rintro e w3 ⟨rfl, hb3⟩
       obtain ⟨c3, -⟩ := bat hb3 w.heap.size l2
       have l3 : w.heap.size < w3.heap.size := Nat.lt_of_lt_of_le l2 hb3.size
       replace hB := Lib.hid (belowT hB.out hb3)
       clear hb3))
  have yc := fun o => (c3 o).trans ((c2 o).trans (xc o))
  have hS0 : w3.drew.cell? ⟨w.heap.size, 0, none⟩ = some (.int .u8 fk) ∧ w3.drew.cell? ⟨w.heap.size, 1, none⟩ = some (.string ⟨ft.toArray⟩) ∧ w3.drew.cell? ⟨w.heap.size, 2, none⟩ = some (.string ⟨fr.toArray⟩) ∧ w3.drew.cell? ⟨w.heap.size, 3, none⟩ = some (.string ⟨fo.toArray⟩) ∧ w3.drew.cell? ⟨w.heap.size, 4, none⟩ = some (.string ⟨fi.toArray⟩) ∧ w3.drew.cell? ⟨w.heap.size, 5, none⟩ = some (.slice fa fn fc) ∧ w.heap.size < w3.drew.heap.size := ⟨yc 0, yc 1, yc 2, yc 3, yc 4, yc 5, l3⟩
  clear yc c3 c2 xc
  replace hB := Lib.hid (hB.out.drew)
  have tok1 := Lib.hid True.intro
  go_region_held3 (fun W => W.cell? ⟨w.heap.size, 0, none⟩ = some (.int .u8 fk) ∧ W.cell? ⟨w.heap.size, 1, none⟩ = some (.string ⟨ft.toArray⟩) ∧ W.cell? ⟨w.heap.size, 2, none⟩ = some (.string ⟨fr.toArray⟩) ∧ W.cell? ⟨w.heap.size, 3, none⟩ = some (.string ⟨fo.toArray⟩) ∧ W.cell? ⟨w.heap.size, 4, none⟩ = some (.string ⟨fi.toArray⟩) ∧ W.cell? ⟨w.heap.size, 5, none⟩ = some (.slice fa fn fc) ∧ w.heap.size < W.heap.size)
    (first | with_reducible assumption | with_reducible exact keepB6 (by assumption) hb10.out | with_reducible exact keepB6 (by assumption) hb9.out | with_reducible exact keepB6 (by assumption) hb8.out | with_reducible exact keepB6 (by assumption) hb7.out | with_reducible exact keepB6 (by assumption) hb6.out | with_reducible exact keepB6 (by assumption) hb5.out | with_reducible exact keepB6 (by assumption) hb4.out)
    (first
      | (go_at_call 9
         refine (live6_any _).mono ?_
         rintro e w4 ⟨rfl, hb4⟩
         replace hB := Lib.hid (belowT hB.out hb4)
         replace hb4 := Lib.hid hb4)
      | (go_at_call 15
         refine (hR1.out _ _ _ _ _ (hTL.out.below hB.out)).mono ?_
         rintro e w5 ⟨v5, rfl, hT5, hb5⟩
         obtain ⟨v5a, v5n, v5c, rfl⟩ : ∃ a n c, v5 = .slice a n c := (by obtain ⟨a, c, h, -⟩ := hT5; exact ⟨a, _, c, h⟩)
         replace hB := Lib.hid (belowT hB.out hb5)
         replace hT5 := Lib.hid hT5
         replace hb5 := Lib.hid hb5)
      | (go_at_call 16
         refine (hR2.out _ _ _ _ _ (hTL.out.below hB.out)).mono ?_
         rintro e w6 ⟨v6, rfl, hT6, hb6⟩
         obtain ⟨v6a, v6n, v6c, rfl⟩ : ∃ a n c, v6 = .slice a n c := (by obtain ⟨a, c, h, -⟩ := hT6; exact ⟨a, _, c, h⟩)
         replace hB := Lib.hid (belowT hB.out hb6)
         replace hT5 := Lib.hid (hT5.out.below hb6)
         replace hT6 := Lib.hid hT6
         replace hb6 := Lib.hid hb6)
      | (go_at_call 14
         have m0 := tok1.out
         refine (hS1.out _ _ _ hT5.out hT6.out).mono ?_
         rintro e w7 ⟨rfl, hb7⟩
         replace hB := Lib.hid (belowT hB.out hb7)
         replace hb7 := Lib.hid hb7
         clear tok1 m0
         have tok2 := Lib.hid True.intro)
      | (go_at_call 17
         refine (hE1.out _ _ _ _).mono ?_
         rintro e w8 ⟨v8, rfl, hT8, hb8⟩
         obtain ⟨v8a, v8n, v8c, rfl⟩ : ∃ a n c, v8 = .slice a n c := (by obtain ⟨a, c, h, -⟩ := hT8; exact ⟨a, _, c, h⟩)
         replace hB := Lib.hid (belowT hB.out hb8)
         replace hT8 := Lib.hid hT8
         replace hb8 := Lib.hid hb8)
      | (go_at_call 18
         refine (hE2.out _ _ _ _).mono ?_
         rintro e w9 ⟨v9, rfl, hT9, hb9⟩
         obtain ⟨v9a, v9n, v9c, rfl⟩ : ∃ a n c, v9 = .slice a n c := (by obtain ⟨a, c, h, -⟩ := hT9; exact ⟨a, _, c, h⟩)
         replace hB := Lib.hid (belowT hB.out hb9)
         replace hT8 := Lib.hid (hT8.out.below hb9)
         replace hT9 := Lib.hid hT9
         replace hb9 := Lib.hid hb9)
      | (go_at_call 14
         have m0 := tok2.out
         refine (hS2.out _ _ _ hT8.out hT9.out).mono ?_
         rintro e w10 ⟨rfl, hb10⟩
         replace hB := Lib.hid (belowT hB.out hb10)
         replace hb10 := Lib.hid hb10
         clear tok2 m0))
  all_goals go_wp2_with fail
  all_goals go_ret
  all_goals exact ⟨rfl, hB.out⟩
theorem stanzaAnswers_walk (z : Sz) (sv v : Value) (l : List Tk) (c : Int) (w : World) (h1 : TkS w sv z.pl) (h2 : z.smallF) (h3 : TksB 140737488351232 z.pl) (_ : z.k < 256) (h4 : TkS w v l) (h5 : TksB 140737488351232 l) (_ : (Lit.int .i64 c).wf = true) :
    Calls Try.prog 4 #[szV z sv, v, .int .i64 c] w fun e w' => e = .returned (.bool true) ∧ Below w.heap.size w w' := by
  by_cases hm : 70 < l.length
  · exact answers_m _ z sv v l (l.take 70) c w rfl h1 h4 rfl (by rw [List.length_take]; omega) (fun tk ht => (small_of h5 tk (List.mem_of_mem_take ht)).2) hm
  · exact answers_n _ z sv v l l c w rfl h1 h4 rfl (by omega) (fun tk ht => (small_of h5 tk ht).2) (by omega)
end Go.Proofs.Ytpgojinfhfipeaa
