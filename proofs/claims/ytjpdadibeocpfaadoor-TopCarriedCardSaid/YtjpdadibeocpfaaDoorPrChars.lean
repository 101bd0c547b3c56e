/-
  A text between tags is told (xml.chars). Conditions: the parser lies at B, the tokens' variable at O; the text fits; an element is open.
-/
import Derived.Test.YtjpdadibeocpfaaDoorPrPiece
namespace Go.Proofs.YtjpdadibeocpfaaDoor
set_option linter.unusedVariables false
set_option linter.unusedSimpArgs false
open Go.RowKit Go.MapKept Go.Proofs
variable {K : Nat → Prop}
theorem OutAt.below {n0 O : Nat} {w w' : World} {l : List Tk} (h : OutAt n0 O w l) (hb : Below w.heap.size w w') : OutAt n0 O w' l := h.keep hb.size fun k hk _ => hb.block k hk
theorem OutAt.rows {n0 O : Nat} {w : World} {l : List Tk} (h : OutAt n0 O w l) (o : Obj) : ∀ v, (w.alloc o).cell? ⟨O, 0, none⟩ = some v → ∀ r, v.ownBlock = some r → r < w.heap.size := by
  obtain ⟨h1, v, h2, h3⟩ := h
  intro v' hv r hr
  have e := ((obj_cells (obj_alloc (o' := o) h2)).1 0).symm.trans hv
  obtain rfl : v = v' := by simpa using e
  exact (tkO_row h3 r hr).2
set_option maxRecDepth 100000 in
set_option maxHeartbeats 4000000 in
theorem xchars_any (n0 n1 B O : Nat) (t : List UInt8) (S : Ps) (l : List Tk) (w : World) (hP : PsAt K n0 B w S) (hO : OutAt n1 O w l) (hne : O ≠ B) (h0 : n1 ≤ w.heap.size) (h01 : n0 ≤ n1) (hf : fitsP t = true) (ht : t ≠ []) (hop : S.op ≠ []) (hl : l.length ≤ 900) :
    Calls Tryd.prog 35 #[.pointer (some ⟨B, 0, none⟩), .string ⟨(escL t).toArray⟩, .func (.func 18) #[] #[.pointer (some ⟨O, 0, none⟩)]] w fun e w' => e = .returned (.tuple #[]) ∧ PsAt K n0 B w' S ∧ OutAt n1 O w' (l ++ [⟨3, [], [], t⟩]) ∧ Step2 n1 B O w w' := by
  have hel := esc_len_le t hf
  have hch : charsP (escL t) = true := (chars_XC _).2 ((chars_XC t).1 (fits_chars hf)).esc
  have hUn := Lib.hid (unescape_any t w (by omega))
  have hCh : Hid (∀ W, Below w.heap.size w W → Calls Tryd.prog 31 #[.string ⟨(escL t).toArray⟩] W fun e w' => e = .returned (.bool true) ∧ Below W.heap.size W w') := Lib.hid fun W _ => by
    have := textChars_any (escL t) W (by omega)
    rwa [hch] at this
  have hte : t.isEmpty = false := by cases t with
    | nil => exact absurd rfl ht
    | cons c t => rfl
  replace hch := Lib.hid hch
  generalize escL t = T at hUn hCh hel
  replace ht := Lib.hid ht
  replace hP := Lib.hid hP
  replace hO := Lib.hid hO
  have hmf : ∀ (fn : Fn) (first cap : Array Value) (w : World), (Instr.makeFunc fn first cap).run Tryd.prog w = .ok (.func fn first cap) w := fun _ _ _ _ => rfl
  go_enter Tryd.func35, Tryd.ntmps35
  go_wp2_with (first
    | (go_at_call 48; refine hUn.out.mono ?_; rintro e w1 ⟨rfl, hb1⟩; replace hb1 := Lib.hid hb1)
    | (go_at_call 31; refine (hCh.out _ hb1.out).mono ?_; rintro e w2 ⟨rfl, hb2⟩; have hB2 := Lib.hid (belowT hb1.out hb2))
    | (go_at_call 37; refine (must_ok 6 _).mono ?_; rintro e w3 ⟨rfl, rfl⟩
       have hP2 := hP.out.below hB2.out
       have hO2 := hO.out.below hB2.out
       obtain ⟨hBn, wv, ov, an, hobj, hOw, hOo, hKw⟩ := hP2
       obtain ⟨c0, c1, c2, c3, c4, c5, hfz, hBl⟩ := pr_cells hobj
       have hP2 : Hid (PsAt K n0 B w2 S) := Lib.hid ⟨hBn, wv, ov, an, hobj, hOw, hOo, hKw⟩
       replace hKw := Lib.hid hKw
       obtain ⟨N, hN⟩ : ∃ N, S.op.length = N + 1 := by
         cases h : S.op with
         | nil => exact absurd h hop
         | cons x r => exact ⟨r.length, by simp⟩
       rw [hN] at hOo
       obtain ⟨oa, oc, rfl⟩ := owns_val hOo
       have hb1n : (((N : Int) + 1) == 0) = false := by rw [beq_eq_false_iff_ne]; omega
       replace hN := Lib.hid hN
       replace hobj := Lib.hid hobj
       replace hOw := Lib.hid hOw
       replace hOo := Lib.hid hOo
       replace hO2 := Lib.hid hO2)
    | (go_at_call 18
       refine (tell_any n0 n1 B O w2.heap.size S l [⟨3, [], [], t⟩] _ _ (hP2.out.below (below1 _ _)) (hO2.out.below (below1 _ _)) hne (by have := hB2.out.size; simp only [World.size_alloc]; omega) h01 (tkF_new 3 [] t (Nat.le_refl _) (atx_nil _ _) (atT_nil _ _)) (Nat.le_trans h0 hB2.out.size) (hO2.out.rows _) (by simp; omega)).mono ?_
       rintro e w5 ⟨rfl, hP5, hO5, hS5⟩; replace hP5 := Lib.hid hP5; replace hO5 := Lib.hid hO5; replace hS5 := Lib.hid hS5))
  go_end0
  exact ⟨rfl, hP5.out, hO5.out, (Step2.below (belowT hB2.out (below1 _ _))).trans hS5.out⟩
end Go.Proofs.YtjpdadibeocpfaaDoor
