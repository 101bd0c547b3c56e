/-
  A text with entities, by the reference (heliographref02.Escape). Condition: the text shorter than the reach.
-/
import Derived.Test.YtadahlffdhgapaaDoorTxEsc
import Derived.Test.YtadahlffdhgapaaDoorFloat
namespace Go.Proofs.YtadahlffdhgapaaDoor
set_option linter.unusedVariables false
set_option linter.unusedSimpArgs false
open Go.RowKit Go.MapKept
attribute [local go_sem] mk_get
def escK : Nat → UInt8 → List UInt8
  | 0, c => [c]
  | 1, c => if c = 38 then [38, 97, 109, 112, 59] else escK 0 c
  | 2, c => if c = 60 then [38, 108, 116, 59] else escK 1 c
  | 3, c => if c = 62 then [38, 103, 116, 59] else escK 2 c
  | 4, c => if c = 39 then [38, 97, 112, 111, 115, 59] else escK 3 c
  | 5, c => if c = 34 then [38, 113, 117, 111, 116, 59] else escK 4 c
  | _, c => [c]
theorem escK_5 (c : UInt8) : escK 5 c = esc1 c := by
  unfold esc1
  simp only [escK]
  by_cases h1 : c = 38
  · subst h1; rfl
  by_cases h2 : c = 60
  · subst h2; rfl
  by_cases h3 : c = 62
  · subst h3; rfl
  by_cases h4 : c = 39
  · subst h4; rfl
  by_cases h5 : c = 34
  · subst h5; rfl
  simp [h1, h2, h3, h4, h5]
theorem escK_len (k : Nat) (c : UInt8) (h : k ≤ 5) : (escK k c).length ≤ 6 := by
  obtain rfl | rfl | rfl | rfl | rfl | rfl : k = 0 ∨ k = 1 ∨ k = 2 ∨ k = 3 ∨ k = 4 ∨ k = 5 := by omega
  all_goals (simp only [escK]; (repeat' split); all_goals simp)
theorem ext1 (s : List UInt8) (i : Nat) (h : i < s.length) : (ByteArray.mk s.toArray).extract i (i + 1) = ⟨#[s[i]'h]⟩ := by
  have e : (s.drop i).take 1 = [s[i]'h] := by rw [List.drop_eq_getElem_cons h]; rfl
  rw [ByteArray.extract_mk]
  congr 1
  simp
  exact e
theorem bcat2 (a b : List UInt8) : ByteArray.mk a.toArray ++ ByteArray.mk b.toArray = ByteArray.mk (a ++ b).toArray := by
  apply ByteArray.ext
  simp
theorem beq1 (x : UInt8) (c : UInt8) : ((ByteArray.mk #[x]).toList == (ByteArray.mk #[c]).toList) = (x == c) := by
  simp [ByteArray.toList_eq]
set_option maxRecDepth 100000 in
set_option maxHeartbeats 8000000 in
theorem refEscape_any (s : List UInt8) (w : World) (hs : s.length ≤ 140737488351232) :
    Calls Tryd.prog 21 #[.string ⟨s.toArray⟩] w fun e w' => e = .returned (.string ⟨(escL s).toArray⟩) ∧ Below w.heap.size w w' := by
  have hEn : Hid (∀ W : World, Calls Tryd.prog 31 #[] W fun e w' => e = .returned (.slice (some ⟨W.heap.size, 0, none⟩) 5 5) ∧ w' = W.alloc (.cells #[.string ⟨#[38]⟩, .string ⟨#[38, 97, 109, 112, 59]⟩, .string ⟨#[60]⟩, .string ⟨#[38, 108, 116, 59]⟩, .string ⟨#[62]⟩, .string ⟨#[38, 103, 116, 59]⟩, .string ⟨#[39]⟩, .string ⟨#[38, 97, 112, 111, 115, 59]⟩, .string ⟨#[34]⟩, .string ⟨#[38, 113, 117, 111, 116, 59]⟩] 69)) := Lib.hid fun W => by
    go_enter Tryd.func31, Tryd.ntmps31
    go_wp2
    go_ret
    exact ⟨rfl, rfl⟩
  have hs9 : (s.length : Int) ≤ 9223372036854775807 := by omega
  go_enter Tryd.func21, Tryd.ntmps21
  go_wp2_with (go_at_call 31; refine (hEn.out _).mono ?_; rintro e w1 ⟨rfl, rfl⟩)
  go_loopw [3, 5] (fun s3 s5 wr => ∃ i : Nat, i ≤ s.length ∧ s5 = .int .i64 i ∧ s3 = .string ⟨(escL (s.take i)).toArray⟩ ∧ Hid (wr.heap[w.heap.size]? = some (.cells #[.string ⟨#[38]⟩, .string ⟨#[38, 97, 109, 112, 59]⟩, .string ⟨#[60]⟩, .string ⟨#[38, 108, 116, 59]⟩, .string ⟨#[62]⟩, .string ⟨#[38, 103, 116, 59]⟩, .string ⟨#[39]⟩, .string ⟨#[38, 97, 112, 111, 115, 59]⟩, .string ⟨#[34]⟩, .string ⟨#[38, 113, 117, 111, 116, 59]⟩] 69)) ∧ Hid (Below w.heap.size w wr)) (fun _ s5 _ => s.length - (intOf s5).toNat)
  case atStart => exact ⟨0, by omega, rfl, rfl, Lib.hid (heap_alloc w _).1, Lib.hid (below1 _ _)⟩
  case round =>
    obtain ⟨i, hi, rfl, rfl, hO, hB⟩ := hrel
    by_cases hlt : i < s.length
    · have hii : (i : Int) < s.length := by omega
      have hii1 : (i : Int) + 1 ≤ s.length := by omega
      have hxt := ext1 s i hlt
      have hsn := escL_snoc s i hlt
      have hll := escL_len (s.take i)
      have htl : (s.take i).length ≤ s.length := by simp; omega
      generalize s[i]'hlt = c at hxt hsn
      replace hsn := Lib.hid hsn
      have h0 : (0 : Int) ≤ (i : Int) := by omega
      have h01 : (i : Int) ≤ (i : Int) + 1 := by omega
      have h02 : (0 : Int) ≤ (i : Int) + 1 := by omega
      have hn1 : ((i : Int) + 1).toNat = i + 1 := by omega
      have hw1 : IntKind.i64.wrap ((i : Int) + 1) = (i : Int) + 1 := by rw [IntKind.wrap_i64]; omega
      obtain ⟨xc, xf, xl⟩ := obj_cells hO.out
      go_wp2_with fail
      go_loopw [6, 7] (fun s6 s7 wk => ∃ k : Nat, k ≤ 5 ∧ s7 = .int .i64 k ∧ s6 = .string ⟨(escK k c).toArray⟩ ∧ Hid (Below wr.heap.size wr wk)) (fun _ s7 _ => 5 - (intOf s7).toNat)
      case atStart => exact ⟨0, by omega, rfl, by simp [escK], Lib.hid (Below.refl _ _)⟩
      case round =>
        obtain ⟨k, hk, rfl, rfl, hX⟩ := hrel
        obtain ⟨yc, yf⟩ := bat hX.out w.heap.size xl
        obtain rfl | rfl | rfl | rfl | rfl | rfl : k = 0 ∨ k = 1 ∨ k = 2 ∨ k = 3 ∨ k = 4 ∨ k = 5 := by omega
        · have f0 : wr.drew.cell? ⟨w.heap.size, 0, none⟩ = some (.string ⟨#[38]⟩) := (yc _).trans (xc 0)
          have f1 : wr.drew.cell? ⟨w.heap.size, 1, none⟩ = some (.string ⟨#[38, 97, 109, 112, 59]⟩) := (yc _).trans (xc 1)
          rw [show ((0 : Nat) : Int) = 0 from rfl]
          by_cases he : c = 38
          · subst he
            have hEn1 : Hid (escK 1 38 = [38, 97, 109, 112, 59]) := Lib.hid (by simp [escK])
            generalize escK 0 38 = ek
            go_wp2_with fail
            refine wp_region_float (by kernel_rfl) (by kernel_rfl) (fun W => W = wr.drew) rfl ?_
            simp only [List.toList_toArray]
            repeat (first
              | (apply Flo.val; · rfl
                 · (rintro W rfl; go_simp; with_reducible rfl)
                 simp only [Act.put, List.setIfInBounds_toArray, List.set_cons_zero, List.set_cons_succ]
                 try rw [hw1])
              | fail)
            rintro W rfl
            go_wp2_with fail
            exact ⟨⟨1, by omega, rfl, by rw [hEn1.out], Lib.hid hX.out.drew⟩, by decide⟩
          · have he2 : (38 == c) = false := by simpa using fun e => he e.symm
            have hEn1 : Hid (escK 1 c = escK 0 c) := Lib.hid (by simp [escK, he])
            generalize escK 0 c = ek at hEn1
            clear he
            go_wp2_with fail
            refine wp_region_float (by kernel_rfl) (by kernel_rfl) (fun W => W = wr.drew) rfl ?_
            simp only [List.toList_toArray]
            repeat (first
              | (apply Flo.val; · rfl
                 · (rintro W rfl; go_simp; with_reducible rfl)
                 simp only [Act.put, List.setIfInBounds_toArray, List.set_cons_zero, List.set_cons_succ]
                 try rw [hw1])
              | fail)
            rintro W rfl
            go_wp2_with fail
            exact ⟨⟨1, by omega, rfl, by rw [hEn1.out], Lib.hid hX.out.drew⟩, by decide⟩
        · have f0 : wr.drew.cell? ⟨w.heap.size, 2, none⟩ = some (.string ⟨#[60]⟩) := (yc _).trans (xc 2)
          have f1 : wr.drew.cell? ⟨w.heap.size, 3, none⟩ = some (.string ⟨#[38, 108, 116, 59]⟩) := (yc _).trans (xc 3)
          rw [show ((1 : Nat) : Int) = 1 from rfl]
          by_cases he : c = 60
          · subst he
            have hEn1 : Hid (escK 2 60 = [38, 108, 116, 59]) := Lib.hid (by simp [escK])
            generalize escK 1 60 = ek
            go_wp2_with fail
            refine wp_region_float (by kernel_rfl) (by kernel_rfl) (fun W => W = wr.drew) rfl ?_
            simp only [List.toList_toArray]
            repeat (first
              | (apply Flo.val; · rfl
                 · (rintro W rfl; go_simp; with_reducible rfl)
                 simp only [Act.put, List.setIfInBounds_toArray, List.set_cons_zero, List.set_cons_succ]
                 try rw [hw1])
              | fail)
            rintro W rfl
            go_wp2_with fail
            exact ⟨⟨2, by omega, rfl, by rw [hEn1.out], Lib.hid hX.out.drew⟩, by decide⟩
          · have he2 : (60 == c) = false := by simpa using fun e => he e.symm
            have hEn1 : Hid (escK 2 c = escK 1 c) := Lib.hid (by simp [escK, he])
            generalize escK 1 c = ek at hEn1
            clear he
            go_wp2_with fail
            refine wp_region_float (by kernel_rfl) (by kernel_rfl) (fun W => W = wr.drew) rfl ?_
            simp only [List.toList_toArray]
            repeat (first
              | (apply Flo.val; · rfl
                 · (rintro W rfl; go_simp; with_reducible rfl)
                 simp only [Act.put, List.setIfInBounds_toArray, List.set_cons_zero, List.set_cons_succ]
                 try rw [hw1])
              | fail)
            rintro W rfl
            go_wp2_with fail
            exact ⟨⟨2, by omega, rfl, by rw [hEn1.out], Lib.hid hX.out.drew⟩, by decide⟩
        · have f0 : wr.drew.cell? ⟨w.heap.size, 4, none⟩ = some (.string ⟨#[62]⟩) := (yc _).trans (xc 4)
          have f1 : wr.drew.cell? ⟨w.heap.size, 5, none⟩ = some (.string ⟨#[38, 103, 116, 59]⟩) := (yc _).trans (xc 5)
          rw [show ((2 : Nat) : Int) = 2 from rfl]
          by_cases he : c = 62
          · subst he
            have hEn1 : Hid (escK 3 62 = [38, 103, 116, 59]) := Lib.hid (by simp [escK])
            generalize escK 2 62 = ek
            go_wp2_with fail
            refine wp_region_float (by kernel_rfl) (by kernel_rfl) (fun W => W = wr.drew) rfl ?_
            simp only [List.toList_toArray]
            repeat (first
              | (apply Flo.val; · rfl
                 · (rintro W rfl; go_simp; with_reducible rfl)
                 simp only [Act.put, List.setIfInBounds_toArray, List.set_cons_zero, List.set_cons_succ]
                 try rw [hw1])
              | fail)
            rintro W rfl
            go_wp2_with fail
            exact ⟨⟨3, by omega, rfl, by rw [hEn1.out], Lib.hid hX.out.drew⟩, by decide⟩
          · have he2 : (62 == c) = false := by simpa using fun e => he e.symm
            have hEn1 : Hid (escK 3 c = escK 2 c) := Lib.hid (by simp [escK, he])
            generalize escK 2 c = ek at hEn1
            clear he
            go_wp2_with fail
            refine wp_region_float (by kernel_rfl) (by kernel_rfl) (fun W => W = wr.drew) rfl ?_
            simp only [List.toList_toArray]
            repeat (first
              | (apply Flo.val; · rfl
                 · (rintro W rfl; go_simp; with_reducible rfl)
                 simp only [Act.put, List.setIfInBounds_toArray, List.set_cons_zero, List.set_cons_succ]
                 try rw [hw1])
              | fail)
            rintro W rfl
            go_wp2_with fail
            exact ⟨⟨3, by omega, rfl, by rw [hEn1.out], Lib.hid hX.out.drew⟩, by decide⟩
        · have f0 : wr.drew.cell? ⟨w.heap.size, 6, none⟩ = some (.string ⟨#[39]⟩) := (yc _).trans (xc 6)
          have f1 : wr.drew.cell? ⟨w.heap.size, 7, none⟩ = some (.string ⟨#[38, 97, 112, 111, 115, 59]⟩) := (yc _).trans (xc 7)
          rw [show ((3 : Nat) : Int) = 3 from rfl]
          by_cases he : c = 39
          · subst he
            have hEn1 : Hid (escK 4 39 = [38, 97, 112, 111, 115, 59]) := Lib.hid (by simp [escK])
            generalize escK 3 39 = ek
            go_wp2_with fail
            refine wp_region_float (by kernel_rfl) (by kernel_rfl) (fun W => W = wr.drew) rfl ?_
            simp only [List.toList_toArray]
            repeat (first
              | (apply Flo.val; · rfl
                 · (rintro W rfl; go_simp; with_reducible rfl)
                 simp only [Act.put, List.setIfInBounds_toArray, List.set_cons_zero, List.set_cons_succ]
                 try rw [hw1])
              | fail)
            rintro W rfl
            go_wp2_with fail
            exact ⟨⟨4, by omega, rfl, by rw [hEn1.out], Lib.hid hX.out.drew⟩, by decide⟩
          · have he2 : (39 == c) = false := by simpa using fun e => he e.symm
            have hEn1 : Hid (escK 4 c = escK 3 c) := Lib.hid (by simp [escK, he])
            generalize escK 3 c = ek at hEn1
            clear he
            go_wp2_with fail
            refine wp_region_float (by kernel_rfl) (by kernel_rfl) (fun W => W = wr.drew) rfl ?_
            simp only [List.toList_toArray]
            repeat (first
              | (apply Flo.val; · rfl
                 · (rintro W rfl; go_simp; with_reducible rfl)
                 simp only [Act.put, List.setIfInBounds_toArray, List.set_cons_zero, List.set_cons_succ]
                 try rw [hw1])
              | fail)
            rintro W rfl
            go_wp2_with fail
            exact ⟨⟨4, by omega, rfl, by rw [hEn1.out], Lib.hid hX.out.drew⟩, by decide⟩
        · have f0 : wr.drew.cell? ⟨w.heap.size, 8, none⟩ = some (.string ⟨#[34]⟩) := (yc _).trans (xc 8)
          have f1 : wr.drew.cell? ⟨w.heap.size, 9, none⟩ = some (.string ⟨#[38, 113, 117, 111, 116, 59]⟩) := (yc _).trans (xc 9)
          rw [show ((4 : Nat) : Int) = 4 from rfl]
          by_cases he : c = 34
          · subst he
            have hEn1 : Hid (escK 5 34 = [38, 113, 117, 111, 116, 59]) := Lib.hid (by simp [escK])
            generalize escK 4 34 = ek
            go_wp2_with fail
            refine wp_region_float (by kernel_rfl) (by kernel_rfl) (fun W => W = wr.drew) rfl ?_
            simp only [List.toList_toArray]
            repeat (first
              | (apply Flo.val; · rfl
                 · (rintro W rfl; go_simp; with_reducible rfl)
                 simp only [Act.put, List.setIfInBounds_toArray, List.set_cons_zero, List.set_cons_succ]
                 try rw [hw1])
              | fail)
            rintro W rfl
            go_wp2_with fail
            exact ⟨⟨5, by omega, rfl, by rw [hEn1.out], Lib.hid hX.out.drew⟩, by decide⟩
          · have he2 : (34 == c) = false := by simpa using fun e => he e.symm
            have hEn1 : Hid (escK 5 c = escK 4 c) := Lib.hid (by simp [escK, he])
            generalize escK 4 c = ek at hEn1
            clear he
            go_wp2_with fail
            refine wp_region_float (by kernel_rfl) (by kernel_rfl) (fun W => W = wr.drew) rfl ?_
            simp only [List.toList_toArray]
            repeat (first
              | (apply Flo.val; · rfl
                 · (rintro W rfl; go_simp; with_reducible rfl)
                 simp only [Act.put, List.setIfInBounds_toArray, List.set_cons_zero, List.set_cons_succ]
                 try rw [hw1])
              | fail)
            rintro W rfl
            go_wp2_with fail
            exact ⟨⟨5, by omega, rfl, by rw [hEn1.out], Lib.hid hX.out.drew⟩, by decide⟩
        · have hel := escK_len 5 c (by omega)
          rw [escK_5] at hel ⊢
          have hsn2 := Lib.hid hsn.out.symm
          generalize esc1 c = e1 at hel hsn2 ⊢
          generalize escL (s.take i) = a1 at hll hsn2 ⊢
          have hov : ¬ 9223372036854775807 < (a1.length : Int) + (e1.length : Int) := by omega
          rw [show ((5 : Nat) : Int) = 5 from rfl]
          go_wp2_with fail
          exact ⟨⟨i + 1, by omega, by simp, by rw [bcat2, hsn2.out], Lib.hid ((hX.out.block _ xl).trans hO.out), Lib.hid (belowT hB.out hX.out)⟩, by simp [intOf]; omega⟩
    · obtain rfl : i = s.length := by omega
      rw [List.take_length]
      go_wp2_with fail
      go_ret
      exact ⟨rfl, hB.out⟩
end Go.Proofs.YtadahlffdhgapaaDoor
