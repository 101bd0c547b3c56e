/-
  The walk of WriteBack.
-/
import Derived.Test.YtadahlffdhgapaaDoorWrLive
import Derived.Test.YtadahlffdhgapaaDoorWrSame2
import Derived.Test.YtadahlffdhgapaaDoorPbFeed
import Derived.Test.YtadahlffdhgapaaDoorOpenTk
namespace Go.Proofs.YtadahlffdhgapaaDoor
set_option linter.unusedVariables false
set_option linter.unusedSimpArgs false
open Go.RowKit Go.MapKept
theorem TksB.smallB {l : List Tk} (h : TksB 140737488351232 l) : ∀ tk ∈ l, tk.small := fun tk ht => by
  obtain ⟨h1, h2, h3, h4⟩ := h.2 tk ht
  exact ⟨h1, h2, by omega, h4⟩
theorem pcs_good : ∀ (ps : List Pc) (op : List (List UInt8)) (pt rt : Bool), PcOk op pt rt ps → ∀ p ∈ ps, p.good
  | [], _, _, _, _, p, hp => by cases hp
  | q :: r, op, pt, rt, h, p, hp => by
    rcases List.mem_cons.1 hp with rfl | hp2
    · exact h.good
    · cases q with
      | txt t => exact pcs_good r _ _ _ h.2.2.2.2.2 p hp2
      | beg n al => exact pcs_good r _ _ _ h.2.2.2.2 p hp2
      | emp n al => exact pcs_good r _ _ _ h.2.2.2.2 p hp2
      | fin n => obtain ⟨_, op', _, _, h3⟩ := h; exact pcs_good r _ _ _ h3 p hp2
theorem text_len : ∀ (ps : List Pc), (∀ p ∈ ps, p.good) → (ps.flatMap Pc.text).length ≤ 40000 * ps.length
  | [], _ => by simp
  | p :: r, h => by
    have ih := text_len r fun q hq => h q (by simp [hq])
    have h1 : p.text.length ≤ 40000 := by
      cases hT : p.isTxt with
      | false => exact (tag_len (h p (by simp)) hT).2
      | true =>
        cases p with
        | txt t => have := esc_len_le t (h (.txt t) (by simp)).2; simp only [Pc.text]; omega
        | beg n al => cases hT
        | emp n al => cases hT
        | fin n => cases hT
    rw [List.flatMap_cons, List.length_append, List.length_cons]
    omega
theorem toks_many : ∀ ps : List Pc, ps.length ≤ (ps.flatMap Pc.toks).length
  | [] => by simp
  | p :: r => by
    have := toks_many r
    have h1 : 1 ≤ p.toks.length := by cases p <;> simp [Pc.toks]
    rw [List.flatMap_cons, List.length_append, List.length_cons]
    omega
theorem print_len {l : List Tk} (h : wholeL l = true) : (printR l).length ≤ 2560000 := by
  obtain ⟨h1, h2, h3⟩ := whole_pieces h
  have h4 := text_len _ (pcs_good _ _ _ _ h1)
  have h5 := toks_many (piecesOf l)
  rw [← h2] at h5
  have h6 := (whole_right h).1
  simp only [rightL, Bool.and_eq_true, decide_eq_true_eq] at h6
  rw [h3]
  omega
theorem refNew_any (w : World) : Calls Tryd.prog 13 #[] w fun e w' => e = .returned (.pointer (some ⟨w.heap.size, 0, none⟩)) ∧ w' = w.alloc (PrObj (.slice none 0 0) 0 (.slice none 0 0) false false) := by
  go_enter Tryd.func13, Tryd.ntmps13
  go_wp2
  go_ret
  exact ⟨rfl, rfl⟩
theorem refDepth_any (n0 B : Nat) (S : Ps) (w : World) (hP : PsAt n0 B w S) : Calls Tryd.prog 16 #[.pointer (some ⟨B, 0, none⟩)] w fun e w' => e = .returned (.int .i64 (S.op.length : Nat)) ∧ w = w' := by
  obtain ⟨-, wv, ov, an, ho, h1, h2⟩ := hP
  obtain ⟨c0, c1, c2, -⟩ := pr_cells ho
  obtain ⟨a, c, rfl⟩ := owns_val h2
  clear c0 c1 h1 h2 ho
  go_enter Tryd.func16, Tryd.ntmps16
  go_wp2
  go_ret
  exact ⟨rfl, rfl⟩
theorem refLeft_any (n0 B : Nat) (S : Ps) (w : World) (hP : PsAt n0 B w S) : Calls Tryd.prog 17 #[.pointer (some ⟨B, 0, none⟩)] w fun e w' => e = .returned (.int .i64 (S.w.length : Nat)) ∧ w = w' := by
  obtain ⟨-, wv, ov, an, ho, h1, h2⟩ := hP
  obtain ⟨c0, c1, c2, -⟩ := pr_cells ho
  obtain ⟨a, c, rfl⟩ := owns_val h1
  clear c2 c1 h1 h2 ho
  go_enter Tryd.func17, Tryd.ntmps17
  go_wp2
  go_ret
  exact ⟨rfl, rfl⟩
theorem below_row {w0 w w' : World} {B : Nat} (h : Below w0.heap.size w0 w) (hg : w.grownBy w' (some B)) (hB : w0.heap.size ≤ B) : Below w0.heap.size w0 w' :=
  ⟨hg.os.trans h.os, hg.tape.trans h.tape, hg.output.trans h.output, Nat.le_trans h.size hg.size, fun k hk => (hg.block k (Nat.lt_of_lt_of_le hk h.size) (fun e => by injection e; omega)).trans (h.block k hk)⟩
theorem tab_lt {w : World} (h : U8T w) : 0 < w.heap.size ∧ 1 < w.heap.size := by
  obtain ⟨h1, h2⟩ := h
  exact ⟨cell_lt (h1 0 (by omega)), cell_lt (h2 0 (by omega)).1⟩
theorem sameL_refl : ∀ l : List Tk, sameL l l = true
  | [] => rfl
  | x :: r => by simp [sameL, sameL_refl r, Tk.same]
set_option maxRecDepth 100000 in
set_option maxHeartbeats 4000000 in
theorem writeBack_walk (v0 : Value) (a : List Tk) (w : World) (h0 : TkS w v0 a) (hB : TksB 140737488351232 a) (hU : U8T w) :
    Calls Tryd.prog 4 #[v0] w fun e w' => e = .returned (.bool true) ∧ Below w.heap.size w w' := by
  have hs : ∀ tk ∈ a.take 70, tk.small := fun tk ht => hB.smallB tk (List.mem_of_mem_take ht)
  have hW := Lib.hid (fun v W h => whole_full v (a.take 70) W h hs)
  have hPg := Lib.hid (fun v W h hr => print_good v (a.take 70) W h hs hr)
  have hPb := Lib.hid (fun v W h hr => print_bad v (a.take 70) W h hs hr)
  replace hs := Lib.hid hs
  replace h0 := Lib.hid h0
  replace hB := Lib.hid hB
  have hSm := Lib.hid (sameL_refl (a.take 70))
  cases hr : rightL (a.take 70) with
  | false =>
    replace hr := Lib.hid hr
    go_enter Tryd.func4, Tryd.ntmps4
    go_wp2_with (first
      | (go_at_call 5
         refine (few_any v0 a _ h0.out).mono ?_
         rintro e w1 ⟨u1, rfl, f1, rfl⟩
         replace f1 := Lib.hid f1)
      | (go_at_call 6
         refine (hPb.out u1 _ f1.out hr.out).mono ?_
         rintro e w2 ⟨rfl, hb2⟩
         replace hb2 := Lib.hid hb2)
      | (go_at_call 8
         refine (live_any _).mono ?_
         rintro e w3 ⟨rfl, hb3⟩
         replace hb3 := Lib.hid hb3))
    go_ret
    exact ⟨rfl, belowT hb2.out hb3.out⟩
  | true =>
    cases hw : wholeL (a.take 70) with
    | false =>
      replace hr := Lib.hid hr
      replace hw := Lib.hid hw
      go_enter Tryd.func4, Tryd.ntmps4
      go_wp2_with (first
        | (go_at_call 5
           refine (few_any v0 a _ h0.out).mono ?_
           rintro e w1 ⟨u1, rfl, f1, rfl⟩
           replace f1 := Lib.hid f1)
        | (go_at_call 6
           refine (hPg.out u1 _ f1.out hr.out).mono ?_
           rintro e w2 ⟨rfl, hb2⟩
           have f2 := Lib.hid (f1.out.below hb2)
           replace hb2 := Lib.hid hb2)
        | (go_at_call 11
           refine (hw.out ▸ hW.out u1 _ f2.out).mono ?_
           rintro e w3 ⟨rfl, hb3⟩
           replace hb3 := Lib.hid (belowT hb2.out hb3))
        | (go_at_call 8
           refine (live_any _).mono ?_
           rintro e w4 ⟨rfl, hb4⟩
           replace hb4 := Lib.hid hb4))
      go_ret
      exact ⟨rfl, belowT hb3.out hb4.out⟩
    | true =>
      have hpl := print_len hw
      have hcv := Lib.hid (fun W : World => Lib.run_convert_string_bytes (P := Tryd.prog) W 9 33 5 ⟨(printR (a.take 70)).toArray⟩ Tryd.underlying9 Tryd.underlying33 Tryd.underlying5)
      have hmd := Lib.hid (fun W : World => U8Row.made W 5 (printR (a.take 70)))
      have hFd := Lib.hid (fun n0 B gb cap W hP h1 h2 h3 h4 h5 h6 h7 => refFeed_any n0 B gb cap (a.take 70) W hP h1 hw h2 h3 h4 h5 h6 h7)
      have hsz : (ByteArray.mk (printR (a.take 70)).toArray).size = (printR (a.take 70)).length := by simp [ByteArray.size]
      replace hr := Lib.hid hr
      replace hw := Lib.hid hw
      replace hU := Lib.hid hU
      have hpl1 : (printR (a.take 70)).length ≤ 140737488351232 := by omega
      generalize hPR : printR (a.take 70) = s at *
      replace hPR := Lib.hid hPR
      go_enter Tryd.func4, Tryd.ntmps4
      go_wp2_with (first
        | (go_at_call 5
           refine (few_any v0 a _ h0.out).mono ?_
           rintro e w1 ⟨u1, rfl, f1, rfl⟩
           replace f1 := Lib.hid f1)
        | (go_at_call 6
           refine (hPg.out u1 _ f1.out hr.out).mono ?_
           rintro e w2 ⟨rfl, hb2⟩
           have f2 := Lib.hid (f1.out.below hb2)
           replace hb2 := Lib.hid hb2)
        | (go_at_call 11
           refine (hw.out ▸ hW.out u1 _ f2.out).mono ?_
           rintro e w3 ⟨rfl, hb3⟩
           have f3 := Lib.hid (f2.out.below hb3)
           replace hb3 := Lib.hid (belowT hb2.out hb3))
        | (go_at_call 13
           refine (refNew_any _).mono ?_
           rintro e w4 ⟨rfl, rfl⟩
           have hcI := hcv.out (w3.alloc (PrObj (.slice none 0 0) 0 (.slice none 0 0) false false))
           have hmI := hmd.out (w3.alloc (PrObj (.slice none 0 0) 0 (.slice none 0 0) false false))
           have hbI := below_bytes (w3.alloc (PrObj (.slice none 0 0) 0 (.slice none 0 0) false false)) 5 ⟨s.toArray⟩
           have hsI := Lib.bytesWorld_size (w3.alloc (PrObj (.slice none 0 0) 0 (.slice none 0 0) false false)) 5 ⟨s.toArray⟩
           rw [World.size_alloc, hsz] at hcI
           rw [World.size_alloc] at hmI hsI
           have hbJ : Below w3.heap.size w3 (Lib.bytesWorld (w3.alloc (PrObj (.slice none 0 0) 0 (.slice none 0 0) false false)) 5 ⟨s.toArray⟩) := (below1 w3 _).trans (hbI.mono (by rw [World.size_alloc]; omega))
           have hoI := (hbI.block w3.heap.size (by rw [World.size_alloc]; omega)).trans (bare_pb w3 _)
           generalize Lib.bytesWorld (w3.alloc (PrObj (.slice none 0 0) 0 (.slice none 0 0) false false)) 5 ⟨s.toArray⟩ = W5 at hcI hmI hbI hsI hbJ hoI
           generalize grownCap (w3.alloc (PrObj (.slice none 0 0) 0 (.slice none 0 0) false false)) s.length 0 5 = cap at hcI
           replace hmI := Lib.hid hmI
           replace hbI := Lib.hid hbI
           replace hbJ := Lib.hid hbJ
           replace hoI := Lib.hid hoI
           replace hsI := Lib.hid hsI))
      refine (hFd.out (w3.heap.size + 1) w3.heap.size (w3.heap.size + 1) cap W5 ⟨by omega, .slice none 0 0, .slice none 0 0, false, hoI.out, World.ownsRow_nil _ _ _ _, World.ownsRow_nil _ _ _ _⟩ (by have := hsI.out; omega) (hU.out.below (belowT hb3.out hbJ.out)) (by have := tab_lt hU.out; have := hb3.out.size; omega) (by omega) (by have := hsI.out; omega) hmI.out.1 hpl1).mono ?_
      rintro e w6 (⟨v, rfl, hTk, ⟨S, hPS, hSw, hSo⟩, hg6⟩ | ⟨v, rfl, hN, hg6⟩)
      · have hb6 := Lib.hid (below_row hbJ.out hg6 (Nat.le_refl _))
        have f6 := Lib.hid (f3.out.below hb6.out)
        replace hTk := Lib.hid hTk
        have hDp : Hid (∀ W, Below w6.heap.size w6 W → Calls Tryd.prog 16 #[.pointer (some ⟨w3.heap.size, 0, none⟩)] W fun e w' => e = .returned (.int .i64 0) ∧ W = w') := Lib.hid fun W hb => by
          have := refDepth_any _ _ _ W (hPS.below hb)
          rw [hSo] at this; exact this
        have hLf : Hid (∀ W, Below w6.heap.size w6 W → Calls Tryd.prog 17 #[.pointer (some ⟨w3.heap.size, 0, none⟩)] W fun e w' => e = .returned (.int .i64 0) ∧ W = w') := Lib.hid fun W hb => by
          have := refLeft_any _ _ _ W (hPS.below hb)
          rw [hSw] at this; exact this
        clear hPS hSw hSo hg6
        go_wp2_with (first
          | (go_at_call 8
             refine (live_any _).mono ?_
             rintro e w7 ⟨rfl, hb7⟩
             have f7 := Lib.hid (f6.out.below hb7)
             have hT7 := Lib.hid (hTk.out.below hb7)
             replace hb7 := Lib.hid hb7)
          | (go_at_call 15
             refine (hSm.out ▸ same_any _ _ (a.take 70) (a.take 70) _ f7.out hT7.out).mono ?_
             rintro e w8 ⟨rfl, hb8⟩
             replace hb8 := Lib.hid (belowT hb7.out hb8))
          | (go_at_call 16; refine (hDp.out _ hb8.out).mono ?_; rintro e w9 ⟨rfl, rfl⟩)
          | (go_at_call 17; refine (hLf.out _ hb8.out).mono ?_; rintro e w9 ⟨rfl, rfl⟩))
        go_ret
        exact ⟨rfl, belowT hb3.out (belowT hb6.out hb8.out)⟩
      · have hb6 := Lib.hid (below_row hbJ.out hg6 (Nat.le_refl _))
        have hNi : (512 : Int) < (s.length : Int) := by omega
        clear hg6 hN
        go_wp2_with (go_at_call 8
                     refine (live_any _).mono ?_
                     rintro e w7 ⟨rfl, hb7⟩
                     replace hb7 := Lib.hid hb7)
        go_ret
        exact ⟨rfl, belowT hb3.out (belowT hb6.out hb7.out)⟩
end Go.Proofs.YtadahlffdhgapaaDoor
