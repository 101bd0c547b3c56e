/-
  The walk of StanzaFails. (Printed by wip/tools/genfails.py.)
-/
import Derived.Test.YtpgojinfhfipeaaStRow
namespace Go.Proofs.Ytpgojinfhfipeaa
set_option linter.unusedVariables false
set_option linter.unusedSimpArgs false
open Go.RowKit Go.MapKept
theorem err_small {z : Sz} (h : z.small) (c : Int) : (errZ z c).small := by
  obtain ⟨⟨h1, h2, h3, h4⟩, h5, h6⟩ := h
  have ht : (typeL c).length ≤ 100 := by
    by_cases hk : knownB c = true
    · rcases known_cases hk with rfl | rfl | rfl | rfl | rfl | rfl | rfl | rfl | rfl | rfl <;> decide
    · rw [typeL_un (by simpa using hk)]; simp
  have hn : (nameL c).length ≤ 100 := by
    by_cases hk : knownB c = true
    · rcases known_cases hk with rfl | rfl | rfl | rfl | rfl | rfl | rfl | rfl | rfl | rfl <;> decide
    · rw [nameL_un (by simpa using hk)]; simp
  refine ⟨⟨by simp [errZ, errL], h3, h2, h4⟩, by simp [errZ, elemL], fun tk hk => ?_⟩
  simp only [errZ, elemL, List.mem_cons, List.mem_append, List.mem_nil_iff, or_false, List.nil_append] at hk
  rcases hk with rfl | (rfl | rfl) | rfl
  · exact ⟨⟨by simp [errL], by simp, by simp, fun p hp => by
      obtain rfl := List.mem_singleton.1 hp
      exact ⟨by simp [tyL], by show (typeL c).length ≤ _; omega⟩⟩, by simp⟩
  · exact ⟨⟨by show (nameL c).length ≤ _; omega, by simp, by simp, fun p hp => by cases hp⟩, by simp⟩
  · exact ⟨⟨by show (nameL c).length ≤ _; omega, by simp, by simp, fun p hp => by cases hp⟩, by simp⟩
  · exact ⟨⟨by simp [errL], by simp, by simp, fun p hp => by cases hp⟩, by simp⟩
set_option maxHeartbeats 4000000 in
theorem fails_u (zf : Sz) (hzf : zf.small) (z : Sz) (sv : Value) (c : Int) (w : World) (hz : zf = { z with pl := z.pl.take 70 }) (hT : TkS w sv z.pl) (hk : knownB c = false) :
    Calls Try.prog 6 #[szV z sv, .int .i64 c] w fun e w' => e = .returned (.bool true) ∧ Below w.heap.size w w' := by
  have hfew : Hid (∀ W, Calls Try.prog 11 #[szV z sv] W fun e w' => ∃ sv', e = .returned (szV zf sv') ∧ TkS w sv' zf.pl ∧ Below W.heap.size W w') := Lib.hid fun W => by subst hz; exact fewZ_any z sv w W hT
  have hErr : Hid (∀ W a n c', Calls Try.prog 17 #[szV zf (.slice a n c'), .int .i64 c] W fun e w' => ∃ sv', e = .returned (szV (errZ zf c) sv') ∧ TkS w' sv' (errZ zf c).pl ∧ Below W.heap.size W w') := Lib.hid fun W a n c' => (error_any zf _ c W ⟨a, n, c', rfl⟩).mono fun _ _ ⟨v, h1, h2, h3⟩ => ⟨v, h1, h2.tks, h3⟩
  have hFa : Hid (∀ W sv', TkS W sv' (errZ zf c).pl → Calls Try.prog 12 #[szV (errZ zf c) sv'] W fun e w' => e = .returned (.tuple #[.int .i64 0, .bool false]) ∧ Below W.heap.size W w') := Lib.hid fun W sv' h => by
    have := failed_any (errZ zf c) sv' W h
    rw [fail_err, nameL_un hk, show failV (condL []) = .tuple #[.int .i64 0, .bool false] from rfl] at this
    exact this
  have hn0 : Hid (nameL c = []) := Lib.hid (nameL_un hk)
  obtain ⟨sa, sn, sc, rfl⟩ : ∃ a n c, sv = .slice a n c := by obtain ⟨a, c, h, -⟩ := hT; exact ⟨a, _, c, h⟩
  clear hT hz hk hzf
  have hZ : ∀ v, szV (errZ zf c) v = .agg #[.int .u8 zf.k, .string ⟨#[101, 114, 114, 111, 114]⟩, .string ⟨zf.tt.toArray⟩, .string ⟨zf.fr.toArray⟩, .string ⟨zf.id.toArray⟩, v] := fun v => rfl
  simp only [hZ] at *
  generalize (errZ zf c).pl = PL at *
  clear hZ
  unfold szV at *
  obtain ⟨zk, zt, zr, zo, zi, zp⟩ := z
  obtain ⟨fk, ft, fr, fo, fi, fp⟩ := zf
  simp only at *
  go_enter Try.func6, Try.ntmps6
  go_upto_region 2 with (go_at_call 11; refine (hfew.out _).mono ?_; rintro e w1 ⟨f', rfl, hTf, hb1⟩; obtain ⟨fa, fn, fc, rfl⟩ : ∃ a n c, f' = .slice a n c := (by obtain ⟨a, c, h, -⟩ := hTf; exact ⟨a, _, c, h⟩); obtain ⟨h1c, h1z⟩ := bat hb1 w.heap.size (by simp))
  have hObj := set6_obj ((hb1.block _ (by simp)).trans (heap_alloc w _).1) (.int .u8 fk) (.string ⟨ft.toArray⟩) (.string ⟨fr.toArray⟩) (.string ⟨fo.toArray⟩) (.string ⟨fi.toArray⟩) (.slice fa fn fc)
  have hB : Hid (Below w.heap.size w ((((((w1.setCell ⟨w.heap.size, 0, none⟩ (.int .u8 fk)).setCell ⟨w.heap.size, 1, none⟩ (.string ⟨ft.toArray⟩)).setCell ⟨w.heap.size, 2, none⟩ (.string ⟨fr.toArray⟩)).setCell ⟨w.heap.size, 3, none⟩ (.string ⟨fo.toArray⟩)).setCell ⟨w.heap.size, 4, none⟩ (.string ⟨fi.toArray⟩)).setCell ⟨w.heap.size, 5, none⟩ (.slice fa fn fc))) := Lib.hid (set6 (below1t hb1) (Nat.le_refl _) _ _ _ _ _ _)
  generalize ((((((w1.setCell ⟨w.heap.size, 0, none⟩ (.int .u8 fk)).setCell ⟨w.heap.size, 1, none⟩ (.string ⟨ft.toArray⟩)).setCell ⟨w.heap.size, 2, none⟩ (.string ⟨fr.toArray⟩)).setCell ⟨w.heap.size, 3, none⟩ (.string ⟨fo.toArray⟩)).setCell ⟨w.heap.size, 4, none⟩ (.string ⟨fi.toArray⟩)).setCell ⟨w.heap.size, 5, none⟩ (.slice fa fn fc)) = W1 at hObj hB ⊢
  obtain ⟨xc, -, xl⟩ := obj_cells hObj
  clear hObj h1c h1z hb1 w1
  replace hTf := Lib.hid hTf
  go_wp2_with (first
    | (go_at_call 17
       refine (hErr.out _ _ _ _).mono ?_
       rintro e w3 ⟨v3, rfl, hT3, hb3⟩
       obtain ⟨v3a, v3n, v3c, rfl⟩ : ∃ a n c, v3 = .slice a n c := (by obtain ⟨a, c, h, -⟩ := hT3; exact ⟨a, _, c, h⟩)
       obtain ⟨c3, -⟩ := bat hb3 w.heap.size xl
       have l3 : w.heap.size < w3.heap.size := Nat.lt_of_lt_of_le xl hb3.size
       replace hB := Lib.hid (belowT hB.out hb3)
       replace hT3 := Lib.hid hT3
       clear hb3)
    | (go_at_call 12
       refine (hFa.out _ _ (hT3.out.below (below1 _ _))).mono ?_
       rintro e w4 ⟨rfl, hb4⟩
       obtain ⟨c4, -⟩ := bat hb4 w.heap.size (by simp <;> omega)
       obtain ⟨d4, -⟩ := bat hb4 w3.heap.size (by simp)
       have l4 : w.heap.size < w4.heap.size := Nat.lt_of_lt_of_le (by simp <;> omega) hb4.size
       have m4 : w3.heap.size < w4.heap.size := Nat.lt_of_lt_of_le (by simp) hb4.size
       have P3 := Lib.hid (belowT (below1 w3 _) hb4)
       replace hB := Lib.hid (belowT (belowA hB.out _) hb4)
       clear hb4)
    | (go_at_call 21
       refine (name0_any c _).mono ?_
       rintro e w5 ⟨rfl, rfl⟩
       rw [hn0.out])
    | (go_at_call 9
       refine (live6_any _).mono ?_
       rintro e w9 ⟨rfl, hb9⟩
       replace hB := Lib.hid (belowT hB.out hb9)))
  go_ret
  exact ⟨rfl, hB.out⟩
set_option maxHeartbeats 4000000 in
theorem fails_n (zf : Sz) (hzf : zf.small) (z : Sz) (sv : Value) (c : Int) (w : World) (hz : zf = { z with pl := z.pl.take 70 }) (hT : TkS w sv z.pl) (hk : knownB c = true) (hr : rightZ zf = false) :
    Calls Try.prog 6 #[szV z sv, .int .i64 c] w fun e w' => e = .returned (.bool true) ∧ Below w.heap.size w w' := by
  have hfew : Hid (∀ W, Calls Try.prog 11 #[szV z sv] W fun e w' => ∃ sv', e = .returned (szV zf sv') ∧ TkS w sv' zf.pl ∧ Below W.heap.size W w') := Lib.hid fun W => by subst hz; exact fewZ_any z sv w W hT
  have hErr : Hid (∀ W a n c', Calls Try.prog 17 #[szV zf (.slice a n c'), .int .i64 c] W fun e w' => ∃ sv', e = .returned (szV (errZ zf c) sv') ∧ TkS w' sv' (errZ zf c).pl ∧ Below W.heap.size W w') := Lib.hid fun W a n c' => (error_any zf _ c W ⟨a, n, c', rfl⟩).mono fun _ _ ⟨v, h1, h2, h3⟩ => ⟨v, h1, h2.tks, h3⟩
  have hFa : Hid (∀ W sv', TkS W sv' (errZ zf c).pl → Calls Try.prog 12 #[szV (errZ zf c) sv'] W fun e w' => e = .returned (.tuple #[.int .i64 c, .bool true]) ∧ Below W.heap.size W w') := Lib.hid fun W sv' h => by
    have := failed_any (errZ zf c) sv' W h
    rw [fail_err, condL_hit hk rfl, show failV c = .tuple #[.int .i64 c, .bool true] by unfold failV; rw [hk]] at this
    exact this
  have hn0 : Hid ((nameL c == []) = false) := Lib.hid (by rcases known_cases hk with rfl | rfl | rfl | rfl | rfl | rfl | rfl | rfl | rfl | rfl <;> rfl)
  have hRt : Hid (∀ W sv', TkS W sv' zf.pl → Calls Try.prog 10 #[szV zf sv'] W fun e w' => e = .returned (.bool false) ∧ Below W.heap.size W w') := Lib.hid fun W sv' h => by
    have := right_any6 zf sv' W h hzf
    rw [hr] at this
    exact this
  obtain ⟨sa, sn, sc, rfl⟩ : ∃ a n c, sv = .slice a n c := by obtain ⟨a, c, h, -⟩ := hT; exact ⟨a, _, c, h⟩
  clear hT hz hk hzf hr
  have hZ : ∀ v, szV (errZ zf c) v = .agg #[.int .u8 zf.k, .string ⟨#[101, 114, 114, 111, 114]⟩, .string ⟨zf.tt.toArray⟩, .string ⟨zf.fr.toArray⟩, .string ⟨zf.id.toArray⟩, v] := fun v => rfl
  simp only [hZ] at *
  generalize (errZ zf c).pl = PL at *
  clear hZ
  unfold szV at *
  obtain ⟨zk, zt, zr, zo, zi, zp⟩ := z
  obtain ⟨fk, ft, fr, fo, fi, fp⟩ := zf
  simp only at *
  go_enter Try.func6, Try.ntmps6
  go_upto_region 2 with (go_at_call 11; refine (hfew.out _).mono ?_; rintro e w1 ⟨f', rfl, hTf, hb1⟩; obtain ⟨fa, fn, fc, rfl⟩ : ∃ a n c, f' = .slice a n c := (by obtain ⟨a, c, h, -⟩ := hTf; exact ⟨a, _, c, h⟩); obtain ⟨h1c, h1z⟩ := bat hb1 w.heap.size (by simp))
  have hObj := set6_obj ((hb1.block _ (by simp)).trans (heap_alloc w _).1) (.int .u8 fk) (.string ⟨ft.toArray⟩) (.string ⟨fr.toArray⟩) (.string ⟨fo.toArray⟩) (.string ⟨fi.toArray⟩) (.slice fa fn fc)
  have hB : Hid (Below w.heap.size w ((((((w1.setCell ⟨w.heap.size, 0, none⟩ (.int .u8 fk)).setCell ⟨w.heap.size, 1, none⟩ (.string ⟨ft.toArray⟩)).setCell ⟨w.heap.size, 2, none⟩ (.string ⟨fr.toArray⟩)).setCell ⟨w.heap.size, 3, none⟩ (.string ⟨fo.toArray⟩)).setCell ⟨w.heap.size, 4, none⟩ (.string ⟨fi.toArray⟩)).setCell ⟨w.heap.size, 5, none⟩ (.slice fa fn fc))) := Lib.hid (set6 (below1t hb1) (Nat.le_refl _) _ _ _ _ _ _)
  generalize ((((((w1.setCell ⟨w.heap.size, 0, none⟩ (.int .u8 fk)).setCell ⟨w.heap.size, 1, none⟩ (.string ⟨ft.toArray⟩)).setCell ⟨w.heap.size, 2, none⟩ (.string ⟨fr.toArray⟩)).setCell ⟨w.heap.size, 3, none⟩ (.string ⟨fo.toArray⟩)).setCell ⟨w.heap.size, 4, none⟩ (.string ⟨fi.toArray⟩)).setCell ⟨w.heap.size, 5, none⟩ (.slice fa fn fc)) = W1 at hObj hB ⊢
  obtain ⟨xc, -, xl⟩ := obj_cells hObj
  clear hObj h1c h1z hb1 w1
  replace hTf := Lib.hid hTf
  go_wp2_with (first
    | (go_at_call 17
       refine (hErr.out _ _ _ _).mono ?_
       rintro e w3 ⟨v3, rfl, hT3, hb3⟩
       obtain ⟨v3a, v3n, v3c, rfl⟩ : ∃ a n c, v3 = .slice a n c := (by obtain ⟨a, c, h, -⟩ := hT3; exact ⟨a, _, c, h⟩)
       obtain ⟨c3, -⟩ := bat hb3 w.heap.size xl
       have l3 : w.heap.size < w3.heap.size := Nat.lt_of_lt_of_le xl hb3.size
       replace hB := Lib.hid (belowT hB.out hb3)
       replace hT3 := Lib.hid hT3
       clear hb3)
    | (go_at_call 12
       refine (hFa.out _ _ (hT3.out.below (below1 _ _))).mono ?_
       rintro e w4 ⟨rfl, hb4⟩
       obtain ⟨c4, -⟩ := bat hb4 w.heap.size (by simp <;> omega)
       obtain ⟨d4, -⟩ := bat hb4 w3.heap.size (by simp)
       have l4 : w.heap.size < w4.heap.size := Nat.lt_of_lt_of_le (by simp <;> omega) hb4.size
       have m4 : w3.heap.size < w4.heap.size := Nat.lt_of_lt_of_le (by simp) hb4.size
       have P3 := Lib.hid (belowT (below1 w3 _) hb4)
       replace hB := Lib.hid (belowT (belowA hB.out _) hb4)
       clear hb4)
    | (go_at_call 21
       refine (name0_any c _).mono ?_
       rintro e w5 ⟨rfl, rfl⟩
       have hn1 := hn0.out)
    | (go_at_call 10
       refine (hRt.out _ _ (hTf.out.below hB.out)).mono ?_
       rintro e w6 ⟨rfl, hb6⟩
       obtain ⟨d6, -⟩ := bat hb6 w3.heap.size m4
       have m6 : w3.heap.size < w6.heap.size := Nat.lt_of_lt_of_le m4 hb6.size
       replace P3 := Lib.hid (belowT P3.out hb6)
       replace hB := Lib.hid (belowT hB.out hb6)
       clear hb6)
    | (go_at_call 9
       refine (live6_any _).mono ?_
       rintro e w9 ⟨rfl, hb9⟩
       replace hB := Lib.hid (belowT hB.out hb9)))
  go_ret
  exact ⟨rfl, hB.out⟩
set_option maxHeartbeats 4000000 in
theorem fails_y (zf : Sz) (hzf : zf.small) (z : Sz) (sv : Value) (c : Int) (w : World) (hz : zf = { z with pl := z.pl.take 70 }) (hT : TkS w sv z.pl) (hk : knownB c = true) (hr : rightZ zf = true) :
    Calls Try.prog 6 #[szV z sv, .int .i64 c] w fun e w' => e = .returned (.bool true) ∧ Below w.heap.size w w' := by
  have hfew : Hid (∀ W, Calls Try.prog 11 #[szV z sv] W fun e w' => ∃ sv', e = .returned (szV zf sv') ∧ TkS w sv' zf.pl ∧ Below W.heap.size W w') := Lib.hid fun W => by subst hz; exact fewZ_any z sv w W hT
  have hErr : Hid (∀ W a n c', Calls Try.prog 17 #[szV zf (.slice a n c'), .int .i64 c] W fun e w' => ∃ sv', e = .returned (szV (errZ zf c) sv') ∧ TkS w' sv' (errZ zf c).pl ∧ Below W.heap.size W w') := Lib.hid fun W a n c' => (error_any zf _ c W ⟨a, n, c', rfl⟩).mono fun _ _ ⟨v, h1, h2, h3⟩ => ⟨v, h1, h2.tks, h3⟩
  have hFa : Hid (∀ W sv', TkS W sv' (errZ zf c).pl → Calls Try.prog 12 #[szV (errZ zf c) sv'] W fun e w' => e = .returned (.tuple #[.int .i64 c, .bool true]) ∧ Below W.heap.size W w') := Lib.hid fun W sv' h => by
    have := failed_any (errZ zf c) sv' W h
    rw [fail_err, condL_hit hk rfl, show failV c = .tuple #[.int .i64 c, .bool true] by unfold failV; rw [hk]] at this
    exact this
  have hn0 : Hid ((nameL c == []) = false) := Lib.hid (by rcases known_cases hk with rfl | rfl | rfl | rfl | rfl | rfl | rfl | rfl | rfl | rfl <;> rfl)
  have hRt : Hid (∀ W sv', TkS W sv' zf.pl → Calls Try.prog 10 #[szV zf sv'] W fun e w' => e = .returned (.bool true) ∧ Below W.heap.size W w') := Lib.hid fun W sv' h => by
    have := right_any6 zf sv' W h hzf
    rw [hr] at this
    exact this
  have hxr := right_err hr hk
  have hxs := err_small hzf c
  have hEn : Hid (∀ W sv', TkS W sv' (errZ zf c).pl → Calls Try.prog 8 #[szV (errZ zf c) sv'] W fun e w' => ∃ v, e = .returned (.tuple #[v, .int .i64 0]) ∧ TkS w' v (tokensZ (errZ zf c)) ∧ Below W.heap.size W w') := Lib.hid fun W sv' h => by
    have := encode_any (errZ zf c) sv' W h hxs
    unfold encL at this
    rw [hxr] at this
    exact this
  have hDe : Hid (∀ W v, TkS W v (tokensZ (errZ zf c)) → Calls Try.prog 19 #[v] W fun e w' => ∃ sv, e = .returned (.tuple #[szV (errZ zf c) sv, .int .i64 0]) ∧ TkS w' sv (errZ zf c).pl ∧ Below W.heap.size W w') := Lib.hid fun W v h => by
    refine (decode_any v _ W h (tokens_ok hxs) (by have := right_len hxr; omega)).mono ?_
    rintro e w1 ⟨sv, z', rfl, hz', hT', hb⟩
    rw [dec_tokens hxr] at hz' ⊢
    obtain rfl : errZ zf c = z' := hz'
    exact ⟨sv, rfl, hT', hb⟩
  have hSa : Hid (∀ W v1 v2, TkS W v1 (errZ zf c).pl → TkS W v2 (errZ zf c).pl → Calls Try.prog 20 #[szV (errZ zf c) v1, szV (errZ zf c) v2] W fun e w' => e = .returned (.bool true) ∧ Below W.heap.size W w') := Lib.hid fun W v1 v2 h1 h2 => by
    have := sameZ_any (errZ zf c) (errZ zf c) v1 v2 W h1 h2
    rw [sameZ_refl] at this
    exact this
  clear hxr hxs
  obtain ⟨sa, sn, sc, rfl⟩ : ∃ a n c, sv = .slice a n c := by obtain ⟨a, c, h, -⟩ := hT; exact ⟨a, _, c, h⟩
  clear hT hz hk hzf hr
  have hZ : ∀ v, szV (errZ zf c) v = .agg #[.int .u8 zf.k, .string ⟨#[101, 114, 114, 111, 114]⟩, .string ⟨zf.tt.toArray⟩, .string ⟨zf.fr.toArray⟩, .string ⟨zf.id.toArray⟩, v] := fun v => rfl
  generalize tokensZ (errZ zf c) = TK at *
  simp only [hZ] at *
  generalize (errZ zf c).pl = PL at *
  clear hZ
  unfold szV at *
  obtain ⟨zk, zt, zr, zo, zi, zp⟩ := z
  obtain ⟨fk, ft, fr, fo, fi, fp⟩ := zf
  simp only at *
  go_enter Try.func6, Try.ntmps6
  go_upto_region 2 with (go_at_call 11; refine (hfew.out _).mono ?_; rintro e w1 ⟨f', rfl, hTf, hb1⟩; obtain ⟨fa, fn, fc, rfl⟩ : ∃ a n c, f' = .slice a n c := (by obtain ⟨a, c, h, -⟩ := hTf; exact ⟨a, _, c, h⟩); obtain ⟨h1c, h1z⟩ := bat hb1 w.heap.size (by simp))
  have hObj := set6_obj ((hb1.block _ (by simp)).trans (heap_alloc w _).1) (.int .u8 fk) (.string ⟨ft.toArray⟩) (.string ⟨fr.toArray⟩) (.string ⟨fo.toArray⟩) (.string ⟨fi.toArray⟩) (.slice fa fn fc)
  have hB : Hid (Below w.heap.size w ((((((w1.setCell ⟨w.heap.size, 0, none⟩ (.int .u8 fk)).setCell ⟨w.heap.size, 1, none⟩ (.string ⟨ft.toArray⟩)).setCell ⟨w.heap.size, 2, none⟩ (.string ⟨fr.toArray⟩)).setCell ⟨w.heap.size, 3, none⟩ (.string ⟨fo.toArray⟩)).setCell ⟨w.heap.size, 4, none⟩ (.string ⟨fi.toArray⟩)).setCell ⟨w.heap.size, 5, none⟩ (.slice fa fn fc))) := Lib.hid (set6 (below1t hb1) (Nat.le_refl _) _ _ _ _ _ _)
  generalize ((((((w1.setCell ⟨w.heap.size, 0, none⟩ (.int .u8 fk)).setCell ⟨w.heap.size, 1, none⟩ (.string ⟨ft.toArray⟩)).setCell ⟨w.heap.size, 2, none⟩ (.string ⟨fr.toArray⟩)).setCell ⟨w.heap.size, 3, none⟩ (.string ⟨fo.toArray⟩)).setCell ⟨w.heap.size, 4, none⟩ (.string ⟨fi.toArray⟩)).setCell ⟨w.heap.size, 5, none⟩ (.slice fa fn fc)) = W1 at hObj hB ⊢
  obtain ⟨xc, -, xl⟩ := obj_cells hObj
  clear hObj h1c h1z hb1 w1
  replace hTf := Lib.hid hTf
  go_wp2_with (first
    | (go_at_call 17
       refine (hErr.out _ _ _ _).mono ?_
       rintro e w3 ⟨v3, rfl, hT3, hb3⟩
       obtain ⟨v3a, v3n, v3c, rfl⟩ : ∃ a n c, v3 = .slice a n c := (by obtain ⟨a, c, h, -⟩ := hT3; exact ⟨a, _, c, h⟩)
       obtain ⟨c3, -⟩ := bat hb3 w.heap.size xl
       have l3 : w.heap.size < w3.heap.size := Nat.lt_of_lt_of_le xl hb3.size
       replace hB := Lib.hid (belowT hB.out hb3)
       replace hT3 := Lib.hid hT3
       clear hb3)
    | (go_at_call 12
       refine (hFa.out _ _ (hT3.out.below (below1 _ _))).mono ?_
       rintro e w4 ⟨rfl, hb4⟩
       obtain ⟨c4, -⟩ := bat hb4 w.heap.size (by simp <;> omega)
       obtain ⟨d4, -⟩ := bat hb4 w3.heap.size (by simp)
       have l4 : w.heap.size < w4.heap.size := Nat.lt_of_lt_of_le (by simp <;> omega) hb4.size
       have m4 : w3.heap.size < w4.heap.size := Nat.lt_of_lt_of_le (by simp) hb4.size
       have P3 := Lib.hid (belowT (below1 w3 _) hb4)
       replace hB := Lib.hid (belowT (belowA hB.out _) hb4)
       clear hb4)
    | (go_at_call 21
       refine (name0_any c _).mono ?_
       rintro e w5 ⟨rfl, rfl⟩
       have hn1 := hn0.out)
    | (go_at_call 10
       refine (hRt.out _ _ (hTf.out.below hB.out)).mono ?_
       rintro e w6 ⟨rfl, hb6⟩
       obtain ⟨d6, -⟩ := bat hb6 w3.heap.size m4
       have m6 : w3.heap.size < w6.heap.size := Nat.lt_of_lt_of_le m4 hb6.size
       replace P3 := Lib.hid (belowT P3.out hb6)
       replace hB := Lib.hid (belowT hB.out hb6)
       clear hb6)
    | (go_at_call 8
       refine (hEn.out _ _ (hT3.out.below P3.out)).mono ?_
       rintro e w7 ⟨v7, rfl, hT7, hb7⟩
       obtain ⟨v7a, v7n, v7c, rfl⟩ : ∃ a n c, v7 = .slice a n c := (by obtain ⟨a, c, h, -⟩ := hT7; exact ⟨a, _, c, h⟩)
       obtain ⟨d7, -⟩ := bat hb7 w3.heap.size m6
       have m7 : w3.heap.size < w7.heap.size := Nat.lt_of_lt_of_le m6 hb7.size
       replace P3 := Lib.hid (belowT P3.out hb7)
       replace hB := Lib.hid (belowT hB.out hb7)
       replace hT7 := Lib.hid hT7
       clear hb7)
    | (go_at_call 19
       refine (hDe.out _ _ hT7.out).mono ?_
       rintro e w8 ⟨v8, rfl, hT8, hb8⟩
       obtain ⟨v8a, v8n, v8c, rfl⟩ : ∃ a n c, v8 = .slice a n c := (by obtain ⟨a, c, h, -⟩ := hT8; exact ⟨a, _, c, h⟩)
       obtain ⟨d8, -⟩ := bat hb8 w3.heap.size m7
       have m8 : w3.heap.size < w8.heap.size := Nat.lt_of_lt_of_le m7 hb8.size
       replace P3 := Lib.hid (belowT P3.out hb8)
       replace hB := Lib.hid (belowT hB.out hb8)
       replace hT8 := Lib.hid hT8
       clear hb8)
    | (go_at_call 9
       refine (live6_any _).mono ?_
       rintro e w9 ⟨rfl, hb9⟩
       obtain ⟨d9, -⟩ := bat hb9 w3.heap.size (by simp <;> omega)
       obtain ⟨e9, -⟩ := bat hb9 w8.heap.size (by simp)
       replace P3 := Lib.hid (belowT (belowA P3.out _) hb9)
       have P8 := Lib.hid (belowT (below1 w8 _) hb9)
       replace hB := Lib.hid (belowT (belowA hB.out _) hb9)
       clear hb9)
    | (go_at_call 20
       refine (hSa.out _ _ _ (hT3.out.below P3.out) (hT8.out.below P8.out)).mono ?_
       rintro e w11 ⟨rfl, hb11⟩
       replace hB := Lib.hid (belowT hB.out hb11)
       clear hb11))
  go_ret
  exact ⟨rfl, hB.out⟩
theorem stanzaFails_walk (z : Sz) (sv : Value) (c : Int) (w : World) (h1 : TkS w sv z.pl) (h2 : z.smallF) (h3 : TksB 140737488351232 z.pl) (_ : z.k < 256) (_ : (Lit.int .i64 c).wf = true) :
    Calls Try.prog 6 #[szV z sv, .int .i64 c] w fun e w' => e = .returned (.bool true) ∧ Below w.heap.size w w' := by
  cases hk : knownB c
  · exact fails_u _ (small_cut h2 h3) z sv c w rfl h1 hk
  · cases hr : rightZ { z with pl := z.pl.take 70 }
    · exact fails_n _ (small_cut h2 h3) z sv c w rfl h1 hk hr
    · exact fails_y _ (small_cut h2 h3) z sv c w rfl h1 hk hr
end Go.Proofs.Ytpgojinfhfipeaa
