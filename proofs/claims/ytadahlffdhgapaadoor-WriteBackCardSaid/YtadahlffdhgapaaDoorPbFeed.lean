/-
  The text of whole tokens is read (heliographref03.Feed). Conditions: the tokens are one element; the library's tables are as they were laid.
-/
import Derived.Test.YtadahlffdhgapaaDoorPbOne
namespace Go.Proofs.YtadahlffdhgapaaDoor
set_option linter.unusedVariables false
set_option linter.unusedSimpArgs false
open Go.RowKit Go.MapKept
theorem step_len {S S' : Ps} {c : UInt8} {tk : List Tk} (h : StepR S c (some (S', tk))) : S'.w.length ≤ 2048 := by
  cases h with
  | txt _ _ _ _ h => simp; omega
  | opn _ _ => simp
  | aft _ _ _ _ _ _ => simp
  | tag _ _ _ _ _ _ h => simp; omega
  | fin _ _ _ _ _ _ _ _ _ => simp
def FeedP (n0 B : Nat) (w : World) (l : List Tk) (n : Nat) (e : Ending) (w' : World) : Prop :=
  (∃ v, e = .returned (.tuple #[v, .int .i64 0]) ∧ TkS w' v l ∧ (∃ S, PsAt n0 B w' S ∧ S.w = [] ∧ S.op = []) ∧ w.grownBy w' (some B)) ∨
    (∃ v, e = .returned (.tuple #[v, .int .i64 5]) ∧ 512 < n ∧ w.grownBy w' (some B))
set_option maxRecDepth 100000 in
set_option maxHeartbeats 8000000 in
theorem refFeed_any (n0 B gb cap : Nat) (l : List Tk) (w : World) (hP : PsAt n0 B w ⟨[], 0, [], false⟩) (h0 : n0 ≤ w.heap.size) (hl : wholeL l = true) (hU : U8T w) (hBU : 0 < B ∧ 1 < B)
    (hgb : gb ≠ B) (hgl : gb < w.heap.size) (hb : ∀ j (h : j < (printR l).length), w.cell? ⟨gb, j, none⟩ = some (.int .u8 (((printR l)[j]'h).toNat : Int))) (hm : (printR l).length ≤ 140737488351232) :
    Calls Tryd.prog 14 #[.pointer (some ⟨B, 0, none⟩), .slice (some ⟨gb, 0, none⟩) (printR l).length cap] w (FeedP n0 B w l (printR l).length) := by
  have hst := feed_start hl
  have hl64 : l.length ≤ 64 := by
    have := (whole_right hl).1
    simp only [rightL, Bool.and_eq_true, decide_eq_true_eq] at this
    exact this.1
  generalize printR l = s at hb hm hst ⊢
  obtain ⟨hBn, wv, ov, an, hobj, -, -⟩ := id hP
  obtain ⟨c0, c1, c2, c3, c4, c5, hfz, hBl⟩ := pr_cells hobj
  have hstep := Lib.hid (fun i S out (h : FeedI l s i S out) (hi : i < s.length) => feed_step h hi)
  have hend := Lib.hid (fun S out (h : FeedI l s s.length S out) => feed_end h)
  replace hst := Lib.hid hst
  replace hU := Lib.hid hU
  replace hb := Lib.hid hb
  replace hP := Lib.hid hP
  replace hobj := Lib.hid hobj
  go_enter Tryd.func14, Tryd.ntmps14
  go_wp2_with fail
  go_loopw [6, 7] (fun s6 s7 wr => ∃ (i : Nat) (S : Ps) (out : List Tk), i ≤ s.length ∧ s7 = .int .i64 i ∧ Hid (FeedI l s i S out) ∧ S.w.length ≤ 2048 ∧ Hid (PsAt n0 B wr S) ∧ Hid (TkO w.heap.size wr s6 out) ∧ Hid (w.grownBy wr (some B))) (fun _ s7 _ => s.length - (intOf s7).toNat)
  case atStart => exact ⟨0, _, [], by omega, rfl, hst, by simp, hP, Lib.hid (tkO_nil _ _), Lib.hid (grown_of (Below.refl _ _))⟩
  case round =>
    obtain ⟨i, S, out, hi, rfl, hF, hS, hPr, hT, hg⟩ := hrel
    clear c0 c1 c2 c3 c4 c5 hfz
    by_cases hlt : i < s.length
    · have hii : (i : Int) < (s.length : Int) := by omega
      have hcell : wr.cell? ⟨gb, i, none⟩ = some (.int .u8 (s[i].toNat : Int)) := (World.cell?_of_block (a := ⟨gb, i, none⟩) (hg.out.block gb hgl (fun e => hgb (by injection e)))).trans (hb.out i hlt)
      have hsz := hg.out.size
      obtain ⟨av, cv, hshp⟩ : ∃ av cv, u6 = .slice av out.length cv := by
        obtain ⟨ps, hps, ow, -⟩ := hT.out
        obtain ⟨a, c, h⟩ := owns_val ow
        exact ⟨a, c, by rw [h, ← hps, List.length_map]⟩
      subst hshp
      have hown : ∀ r, (Value.slice av out.length cv).ownBlock = some r → w.heap.size ≤ r ∧ r < wr.heap.size := fun r hr => by
        obtain ⟨ps, -, ow, -⟩ := hT.out
        exact ow.lt r hr
      rcases hstep.out i S out hF.out hlt with ⟨S', tk, hR, hF'⟩ | ⟨hR, hN⟩
      · have hlen := step_len hR
        have htl : out.length + tk.length ≤ 1000 := by
          have : (out ++ tk).length ≤ l.length := by
            rcases hF' with ⟨p, r, k, pt, -, -, -, -, h, -⟩ | ⟨-, h, -⟩
            · rw [h]; simp
            · rw [h]; exact Nat.le_refl _
          rw [List.length_append] at this
          omega
        have hO := Lib.hid (refOne_byte n0 B S s[i] _ wr hPr.out (by omega) (hU.out.apart hBU hg.out) hBU hR hS)
        replace hR := Lib.hid hR
        replace hF' := Lib.hid hF'
        go_wp2_with (first
          | (go_at_call 25; refine hO.out.mono ?_; rintro e w3 ⟨tv, rfl, hT3, hP3, hg3⟩
             have hgw3 := grown_trans hg.out hg3
             have hT23 := tkO_byte hT.out hg3 hBl
             obtain ⟨v5, w5, hr5, hT5, hgg5, hor5⟩ := tk_append w3 w.heap.size wr.heap.size (.slice av out.length cv) tv out tk hT23 hT3 hsz (fun r hr => (hown r hr).2) htl hgw3.size
             have hP5 := hP3.row hT23 hgg5
             have hg5w := grown_row hgw3 hgg5 (fun r hr => (hown r hr).1)
             replace hr5 := Lib.hid hr5
             replace hT5 := Lib.hid hT5
             replace hP5 := Lib.hid hP5
             replace hg5w := Lib.hid hg5w)
          | (at_builtin; refine wpList_append_run _ w5 rfl _ _ 22 rfl _ _ _ rfl rfl hr5.out ?_))
        go_roundw
        case rel => exact ⟨i + 1, S', out ++ tk, by omega, by go_num, hF', hlen, hP5, hT5, hg5w⟩
        case measure => simp [intOf]; omega
      · have hO := Lib.hid (refOne_byte n0 B S s[i] _ wr hPr.out (by omega) (hU.out.apart hBU hg.out) hBU hR hS)
        have htl : out.length + ([] : List Tk).length ≤ 1000 := by
          have : out.length ≤ l.length := by
            rcases hF.out with ⟨p, r, k, pt, -, -, -, -, h, -⟩ | ⟨-, h, -⟩
            · rw [h]; simp
            · rw [h]; exact Nat.le_refl _
          simp; omega
        replace hR := Lib.hid hR
        go_wp2_with (first
          | (go_at_call 25; refine hO.out.mono ?_; rintro e w3 ⟨tv, rfl, hT3, ⟨S3, hP3⟩, hg3⟩
             have hgw3 := grown_trans hg.out hg3
             have hT23 := tkO_byte hT.out hg3 hBl
             obtain ⟨v5, w5, hr5, hT5, hgg5, hor5⟩ := tk_append w3 w.heap.size wr.heap.size (.slice av out.length cv) tv out [] hT23 hT3 hsz (fun r hr => (hown r hr).2) htl hgw3.size
             have hP5 := hP3.row hT23 hgg5
             have hg5w := grown_row hgw3 hgg5 (fun r hr => (hown r hr).1)
             obtain ⟨-, wv5, ov5, an5, ho5, -, -⟩ := hP5
             obtain ⟨m0, m1, m2, m3, m4, m5, mfz, mBl⟩ := pr_cells ho5
             replace hr5 := Lib.hid hr5
             replace hT5 := Lib.hid hT5
             replace hg5w := Lib.hid hg5w)
          | (at_builtin; refine wpList_append_run _ w5 rfl _ _ 22 rfl _ _ _ rfl rfl hr5.out ?_))
        go_ret2
        exact .inr ⟨_, rfl, hN, grown_set _ hg5w.out⟩
    · obtain rfl : i = s.length := by omega
      have hE := hend.out S out hF.out
      obtain ⟨rfl, hE2, hE3⟩ := hE
      replace hE2 := Lib.hid hE2
      replace hE3 := Lib.hid hE3
      go_wp2_with fail
      go_ret2
      exact .inl ⟨_, rfl, hT.out.tks, ⟨S, hPr.out, hE2.out, hE3.out⟩, hg.out⟩
end Go.Proofs.YtadahlffdhgapaaDoor
