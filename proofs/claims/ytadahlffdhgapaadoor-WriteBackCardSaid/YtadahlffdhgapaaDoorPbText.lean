/-
  A text inside an element is read (heliographref03.text). Conditions: the text fits; an element is open; the library's tables are as they were laid.
-/
import Derived.Test.YtadahlffdhgapaaDoorPbMem
import Derived.Test.YtadahlffdhgapaaDoorRfChars
namespace Go.Proofs.YtadahlffdhgapaaDoor
set_option linter.unusedVariables false
set_option linter.unusedSimpArgs false
open Go.RowKit Go.MapKept
set_option maxRecDepth 100000 in
set_option maxHeartbeats 4000000 in
theorem refText_any (n0 B : Nat) (t : List UInt8) (S : Ps) (w : World) (hP : PsAt n0 B w S) (hf : fitsP t = true) (hop : S.op ≠ []) (hU : U8T w) :
    Calls Tryd.prog 37 #[.pointer (some ⟨B, 0, none⟩), .string ⟨(escL t).toArray⟩] w fun e w' => ∃ tv, e = .returned (.tuple #[tv, .int .i64 0]) ∧ TkO w.heap.size w' tv [⟨3, [], [], t⟩] ∧ Below w.heap.size w w' := by
  obtain ⟨hBn, wv, ov, an, hobj, hOw, hOo⟩ := hP
  have hel := esc_len_le t hf
  have hch : charsP (escL t) = true := (chars_XC _).2 ((chars_XC t).1 (fits_chars hf)).esc
  obtain ⟨N, hN⟩ : ∃ N, S.op.length = N + 1 := by
    cases h : S.op with
    | nil => exact absurd h hop
    | cons x r => exact ⟨r.length, by simp⟩
  rw [hN] at hOo
  obtain ⟨oa, oc, rfl⟩ := owns_val hOo
  have hUn := Lib.hid (refUnescape_any t w (by omega))
  have hCh : Hid (Calls Tryd.prog 42 #[.string ⟨(escL t).toArray⟩] (w.alloc entRow) fun e w' => e = .returned (.bool true) ∧ Below (w.alloc entRow).heap.size (w.alloc entRow) w') := Lib.hid (by
    have := refChars_any (escL t) (w.alloc entRow) (by omega) (hU.below (below1 _ _))
    rwa [hch] at this)
  have hb1 : (((N : Int) + 1) == 0) = false := by rw [beq_eq_false_iff_ne]; omega
  replace hch := Lib.hid hch
  replace hN := Lib.hid hN
  replace hobj := Lib.hid hobj
  generalize escL t = T at hUn hCh hel
  go_enter Tryd.func37, Tryd.ntmps37
  go_wp2_with (first
    | (go_at_call 43; refine hUn.out.mono ?_; rintro e w1 ⟨rfl, rfl⟩)
    | (go_at_call 42; refine hCh.out.mono ?_; rintro e w2 ⟨rfl, hb2⟩
       have hB2 := (below1 w entRow).trans (hb2.mono (by simp))
       have hobj2 := (hB2.block B (Array.getElem?_eq_some_iff.1 hobj.out).1).trans hobj.out
       obtain ⟨c0, c1, c2, c3, c4, c5, hfz, hBl⟩ := pr_cells hobj2
       replace hobj2 := Lib.hid hobj2
       replace hB2 := Lib.hid hB2))
  go_ret2
  refine ⟨_, rfl, tkF_new 3 [] t hB2.out.size (atx_nil _ _), hB2.out.alloc hB2.out.size _⟩
end Go.Proofs.YtadahlffdhgapaaDoor
