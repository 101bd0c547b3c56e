/-
  Both maps tell the same. Condition: they hold the same pairs; a text within the reach.
-/
import Derived.Test.YtfeiihmhdcnabaaKvPlay
import Derived.Test.YtfeiihmhdcnabaaOrd
namespace Go.Proofs.Ytfeiihmhdcnabaa
set_option linter.unusedVariables false
set_option linter.unusedSimpArgs false
open Go.RowKit Go.MapKept
theorem bytesC (g b : Nat) (E : Ats) (w : World) (h : KvS w g b E) :
    Calls Try.prog 23 #[.pointer (some ⟨g, 0, none⟩)] w fun e w' => ∃ sv, e = .returned sv ∧ (∀ W : World, Below w'.heap.size w' W → (convert 26 9 sv).run Try.prog W = .ok (.string ⟨(bytesE E).toArray⟩) W) ∧ BySl w' sv (bytesE E) ∧ Below w.heap.size w w' :=
  (bytes_any g b E w h).mono fun e w' ⟨sv, h1, h2, h3⟩ => ⟨sv, h1, fun W hb => ((BySl.of_own h2).below hb).string, BySl.of_own h2, h3⟩
theorem refBytesC (g : Nat) (E : Ats) (w : World) (h : RfS w g E) :
    Calls Try.prog 32 #[.pointer (some ⟨g, 0, none⟩)] w fun e w' => ∃ sv, e = .returned sv ∧ (∀ W : World, Below w'.heap.size w' W → (convert 26 9 sv).run Try.prog W = .ok (.string ⟨(bytesE E).toArray⟩) W) ∧ Below w.heap.size w w' :=
  (refBytes_any g E w h).mono fun e w' ⟨sv, h1, h2, h3⟩ => ⟨sv, h1, fun W hb => ((BySl.of_own h2).below hb).string, h3⟩
theorem scanK_len {E : Ats} (h : okE E) (p : Txt) : (scanE E p).length ≤ 1000 := Nat.le_trans (List.length_filter_le _ _) (by have := h.2.1; omega)
set_option maxHeartbeats 2000000 in
theorem same_any (n0 g b gr : Nat) (E : Ats) (s : Txt) (w : World) (h : Both n0 w g b gr E) (hs : s.length ≤ 140737488351232) :
    Calls Try.prog 17 #[.pointer (some ⟨g, 0, none⟩), .pointer (some ⟨gr, 0, none⟩), .string ⟨s.toArray⟩] w fun e w' => e = .returned (.bool true) ∧ Below w.heap.size w w' := by
  have hl := scanK_len h.kv.1 s
  have hG := fun W (h : KvS W g b E) => (get_any g b E s W h hs).mono (fun e w' h => (⟨h.1, h.2.symm⟩ : _ ∧ W = w'))
  have hG2 := fun W (h : RfS W gr E) => refGet_any gr E s W h
  generalize parE E s = q at hG hG2
  generalize q.getD [] = q1 at hG hG2
  generalize q.isSome = q2 at hG hG2
  have hSc := fun W (h : KvS W g b E) => scan_any g b E s W h
  have hSc2 := fun W (h : RfS W gr E) => refScan_any gr E s W h
  generalize scanE E s = sc at hSc hSc2 hl
  have hSa : Hid (∀ v1 v2 W, AtS W v1 sc → AtS W v2 sc → Calls Try.prog 33 #[v1, v2] W fun e w' => e = .returned (.bool true) ∧ Below W.heap.size W w') := Lib.hid fun v1 v2 W h1 h2 =>
    (sameP_any v1 v2 sc sc W h1 h2 hl).mono fun e w' ⟨h, hb⟩ => ⟨by rw [h, decide_eq_true_iff.2 rfl], hb⟩
  have hBy := fun W (h : KvS W g b E) => bytesC g b E W h
  have hBy2 := fun W (h : RfS W gr E) => refBytesC gr E W h
  generalize bytesE E = bs at hBy hBy2
  have hSz := fun W (h : KvS W g b E) => size_any g b E W h
  have hSz2 := fun W (h : RfS W gr E) => refSize_any gr E W h
  generalize sizeE E = sz at hSz hSz2
  have hLn := fun W (h : KvS W g b E) => (kvLen_any g b E W h).mono (fun e w' h => (⟨h.1, h.2.symm⟩ : _ ∧ W = w'))
  have hLn2 := fun W (h : RfS W gr E) => refLen_any gr E W h
  generalize E.length = ln at hLn hLn2
  have hb0 := Lib.hid (Below.refl w.heap.size w)
  have hdr : Below w.heap.size w w.drew := (Below.refl _ _).drew
  have hBo := Lib.hid h
  have hBd := Lib.hid (h.below hdr)
  replace hdr := Lib.hid hdr
  replace hG := Lib.hid hG
  replace hG2 := Lib.hid hG2
  replace hSc := Lib.hid hSc
  replace hSc2 := Lib.hid hSc2
  replace hBy := Lib.hid hBy
  replace hBy2 := Lib.hid hBy2
  replace hSz := Lib.hid hSz
  replace hSz2 := Lib.hid hSz2
  replace hLn := Lib.hid hLn
  replace hLn2 := Lib.hid hLn2
  clear h hl
  go_enter Try.func17, Try.ntmps17
  go_wp2_with (first
    | (have m0 := m1; go_at_call 29; refine (hG2.out _ hBo.out.rf).mono ?_; rintro e w2 ⟨rfl, rfl⟩; have m2 := True.intro)
    | (go_at_call 19; refine (hG.out _ hBo.out.kv).mono ?_; rintro e w1 ⟨rfl, rfl⟩; have m1 := True.intro))
  refine wp_region_ord [0, 1, 2, 3, 4, 5, 6, 7, 8, 9, 11, 13, 14, 15, 16, 18, 20, 21, 22, 23, 25, 26, 28, 29, 30, 31, 32, 33, 35, 36, 39, 40] [0, 1, 2, 3, 4, 5, 6, 7, 8, 9, 11, 10, 12, 13, 14, 15, 16, 18, 17, 19, 20, 21, 22, 23, 26, 24, 25, 27, 28, 29, 30, 31, 32, 33, 35, 36, 34, 37, 38, 39, 40] (by kernel_rfl) (by kernel_rfl) ?_
  repeat (first
    | (apply OrdRun.val
       · rfl
       · (simp only [List.getElem?_toArray, List.getElem?_cons_zero, List.getElem?_cons_succ]; exact rfl)
       · (intro Wx; rfl)
       · rfl
       · (intro Wx hWx; first | (go_simp; done) | (go_simp; with_reducible rfl) | (have hcx := hc7.out Wx hWx; go_simp; with_reducible rfl) | (have hcx := hc8.out Wx hWx; go_simp; with_reducible rfl))
       simp only [Act.put, List.setIfInBounds_toArray, List.set_cons_zero, List.set_cons_succ]))
  apply OrdRun.drive
  · rfl
  · (simp only [List.getElem?_toArray, List.getElem?_cons_zero, List.getElem?_cons_succ]; exact rfl)
  gi_wp2_with (refine ⟨trivial, rfl, callsIn_wide.2 ?_⟩; go_at_call 15; refine (hLn.out _ hBd.out.kv).mono ?_; rintro e w4 ⟨rfl, rfl⟩)
  try refine And.intro (Below.refl _ _) ?_
  repeat (first
    | (apply OrdRun.val
       · rfl
       · (simp only [List.getElem?_toArray, List.getElem?_cons_zero, List.getElem?_cons_succ]; exact rfl)
       · (intro Wx; rfl)
       · rfl
       · (intro Wx hWx; first | (go_simp; done) | (go_simp; with_reducible rfl) | (have hcx := hc7.out Wx hWx; go_simp; with_reducible rfl) | (have hcx := hc8.out Wx hWx; go_simp; with_reducible rfl))
       simp only [Act.put, List.setIfInBounds_toArray, List.set_cons_zero, List.set_cons_succ]))
  apply OrdRun.drive
  · rfl
  · (simp only [List.getElem?_toArray, List.getElem?_cons_zero, List.getElem?_cons_succ]; exact rfl)
  gi_wp2_with (refine ⟨trivial, rfl, callsIn_wide.2 ?_⟩; go_at_call 30; refine (hLn2.out _ hBd.out.rf).mono ?_; rintro e w4 ⟨rfl, rfl⟩)
  try refine And.intro (Below.refl _ _) ?_
  repeat (first
    | (apply OrdRun.val
       · rfl
       · (simp only [List.getElem?_toArray, List.getElem?_cons_zero, List.getElem?_cons_succ]; exact rfl)
       · (intro Wx; rfl)
       · rfl
       · (intro Wx hWx; first | (go_simp; done) | (go_simp; with_reducible rfl) | (have hcx := hc7.out Wx hWx; go_simp; with_reducible rfl) | (have hcx := hc8.out Wx hWx; go_simp; with_reducible rfl))
       simp only [Act.put, List.setIfInBounds_toArray, List.set_cons_zero, List.set_cons_succ]))
  apply OrdRun.drive
  · rfl
  · (simp only [List.getElem?_toArray, List.getElem?_cons_zero, List.getElem?_cons_succ]; exact rfl)
  gi_wp2_with (refine ⟨trivial, rfl, callsIn_wide.2 ?_⟩; go_at_call 27; refine (hSz.out _ hBd.out.kv).mono ?_; rintro e w5 ⟨rfl, hbn⟩)
  try refine And.intro hbn ?_
  have hB5 := Lib.hid (hBd.out.below hbn)
  have hb5 := Lib.hid (belowT hdr.out hbn)
  clear hbn
  repeat (first
    | (apply OrdRun.val
       · rfl
       · (simp only [List.getElem?_toArray, List.getElem?_cons_zero, List.getElem?_cons_succ]; exact rfl)
       · (intro Wx; rfl)
       · rfl
       · (intro Wx hWx; first | (go_simp; done) | (go_simp; with_reducible rfl) | (have hcx := hc7.out Wx hWx; go_simp; with_reducible rfl) | (have hcx := hc8.out Wx hWx; go_simp; with_reducible rfl))
       simp only [Act.put, List.setIfInBounds_toArray, List.set_cons_zero, List.set_cons_succ]))
  apply OrdRun.drive
  · rfl
  · (simp only [List.getElem?_toArray, List.getElem?_cons_zero, List.getElem?_cons_succ]; exact rfl)
  gi_wp2_with (refine ⟨trivial, rfl, callsIn_wide.2 ?_⟩; go_at_call 31; refine (hSz2.out _ hB5.out.rf).mono ?_; rintro e w6 ⟨rfl, hbn⟩)
  try refine And.intro hbn ?_
  have hB6 := Lib.hid (hB5.out.below hbn)
  have hb6 := Lib.hid (belowT hb5.out hbn)
  clear hbn
  repeat (first
    | (apply OrdRun.val
       · rfl
       · (simp only [List.getElem?_toArray, List.getElem?_cons_zero, List.getElem?_cons_succ]; exact rfl)
       · (intro Wx; rfl)
       · rfl
       · (intro Wx hWx; first | (go_simp; done) | (go_simp; with_reducible rfl) | (have hcx := hc7.out Wx hWx; go_simp; with_reducible rfl) | (have hcx := hc8.out Wx hWx; go_simp; with_reducible rfl))
       simp only [Act.put, List.setIfInBounds_toArray, List.set_cons_zero, List.set_cons_succ]))
  apply OrdRun.drive
  · rfl
  · (simp only [List.getElem?_toArray, List.getElem?_cons_zero, List.getElem?_cons_succ]; exact rfl)
  gi_wp2_with (refine ⟨trivial, rfl, callsIn_wide.2 ?_⟩; go_at_call 23; refine (hBy.out _ hB6.out.kv).mono ?_; rintro e w7 ⟨v7, rfl, hc7, -, hbn⟩)
  try refine And.intro hbn ?_
  have hB7 := Lib.hid (hB6.out.below hbn)
  have hb7 := Lib.hid (belowT hb6.out hbn)
  replace hc7 := Lib.hid hc7
  clear hbn
  repeat (first
    | (apply OrdRun.val
       · rfl
       · (simp only [List.getElem?_toArray, List.getElem?_cons_zero, List.getElem?_cons_succ]; exact rfl)
       · (intro Wx; rfl)
       · rfl
       · (intro Wx hWx; first | (go_simp; done) | (go_simp; with_reducible rfl) | (have hcx := hc7.out Wx hWx; go_simp; with_reducible rfl) | (have hcx := hc8.out Wx hWx; go_simp; with_reducible rfl))
       simp only [Act.put, List.setIfInBounds_toArray, List.set_cons_zero, List.set_cons_succ]))
  apply OrdRun.drive
  · rfl
  · (simp only [List.getElem?_toArray, List.getElem?_cons_zero, List.getElem?_cons_succ]; exact rfl)
  gi_wp2_with (refine ⟨trivial, rfl, callsIn_wide.2 ?_⟩; go_at_call 32; refine (hBy2.out _ hB7.out.rf).mono ?_; rintro e w8 ⟨v8, rfl, hc8, hbn⟩)
  try refine And.intro hbn ?_
  have hB8 := Lib.hid (hB7.out.below hbn)
  have hb8 := Lib.hid (belowT hb7.out hbn)
  replace hc8 := Lib.hid hc8
  clear hbn hc7
  repeat (first
    | (apply OrdRun.val
       · rfl
       · (simp only [List.getElem?_toArray, List.getElem?_cons_zero, List.getElem?_cons_succ]; exact rfl)
       · (intro Wx; rfl)
       · rfl
       · (intro Wx hWx; first | (go_simp; done) | (go_simp; with_reducible rfl) | (have hcx := hc7.out Wx hWx; go_simp; with_reducible rfl) | (have hcx := hc8.out Wx hWx; go_simp; with_reducible rfl))
       simp only [Act.put, List.setIfInBounds_toArray, List.set_cons_zero, List.set_cons_succ]))
  apply OrdRun.drive
  · rfl
  · (simp only [List.getElem?_toArray, List.getElem?_cons_zero, List.getElem?_cons_succ]; exact rfl)
  gi_wp2_with (refine ⟨trivial, rfl, callsIn_wide.2 ?_⟩; go_at_call 18; refine (hSc.out _ hB8.out.kv).mono ?_; rintro e w9 ⟨v9, rfl, hA9, hbn⟩)
  try refine And.intro hbn ?_
  have hB9 := Lib.hid (hB8.out.below hbn)
  have hb9 := Lib.hid (belowT hb8.out hbn)
  clear hbn hc8
  repeat (first
    | (apply OrdRun.val
       · rfl
       · (simp only [List.getElem?_toArray, List.getElem?_cons_zero, List.getElem?_cons_succ]; exact rfl)
       · (intro Wx; rfl)
       · rfl
       · (intro Wx hWx; first | (go_simp; done) | (go_simp; with_reducible rfl) | (have hcx := hc7.out Wx hWx; go_simp; with_reducible rfl) | (have hcx := hc8.out Wx hWx; go_simp; with_reducible rfl))
       simp only [Act.put, List.setIfInBounds_toArray, List.set_cons_zero, List.set_cons_succ]))
  apply OrdRun.drive
  · rfl
  · (simp only [List.getElem?_toArray, List.getElem?_cons_zero, List.getElem?_cons_succ]; exact rfl)
  gi_wp2_with (refine ⟨trivial, rfl, callsIn_wide.2 ?_⟩; go_at_call 34; refine (hSc2.out _ hB9.out.rf).mono ?_; rintro e w10 ⟨v10, rfl, hA10, hbn⟩)
  try refine And.intro hbn ?_
  replace hA9 := hA9.below hbn
  have hb10 := Lib.hid (belowT hb9.out hbn)
  clear hbn
  repeat (first
    | (apply OrdRun.val
       · rfl
       · (simp only [List.getElem?_toArray, List.getElem?_cons_zero, List.getElem?_cons_succ]; exact rfl)
       · (intro Wx; rfl)
       · rfl
       · (intro Wx hWx; first | (go_simp; done) | (go_simp; with_reducible rfl) | (have hcx := hc7.out Wx hWx; go_simp; with_reducible rfl) | (have hcx := hc8.out Wx hWx; go_simp; with_reducible rfl))
       simp only [Act.put, List.setIfInBounds_toArray, List.set_cons_zero, List.set_cons_succ]))
  apply OrdRun.drive
  · rfl
  · (simp only [List.getElem?_toArray, List.getElem?_cons_zero, List.getElem?_cons_succ]; exact rfl)
  gi_wp2_with (refine ⟨trivial, rfl, callsIn_wide.2 ?_⟩; go_at_call 33; refine (hSa.out _ _ _ hA9 hA10).mono ?_; rintro e w11 ⟨rfl, hbn⟩)
  try refine And.intro hbn ?_
  have hb11 := Lib.hid (belowT hb10.out hbn)
  clear hbn
  repeat (first
    | (apply OrdRun.val
       · rfl
       · (simp only [List.getElem?_toArray, List.getElem?_cons_zero, List.getElem?_cons_succ]; exact rfl)
       · (intro Wx; rfl)
       · rfl
       · (intro Wx hWx; first | (go_simp; done) | (go_simp; with_reducible rfl) | (have hcx := hc7.out Wx hWx; go_simp; with_reducible rfl) | (have hcx := hc8.out Wx hWx; go_simp; with_reducible rfl))
       simp only [Act.put, List.setIfInBounds_toArray, List.set_cons_zero, List.set_cons_succ]))
  refine OrdRun.nil ?_
  go_wp2
  go_ret
  exact ⟨by simp, hb11.out⟩
end Go.Proofs.Ytfeiihmhdcnabaa
