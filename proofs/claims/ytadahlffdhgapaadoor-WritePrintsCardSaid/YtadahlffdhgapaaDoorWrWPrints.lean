/-
  The walk of WritePrints.
-/
import Derived.Test.YtadahlffdhgapaaDoorWrLive
import Derived.Test.YtadahlffdhgapaaDoorRfPrint
import Derived.Test.YtadahlffdhgapaaDoorRfWhole
import Derived.Test.YtadahlffdhgapaaDoorOpenTk
namespace Go.Proofs.YtadahlffdhgapaaDoor
set_option linter.unusedVariables false
set_option linter.unusedSimpArgs false
open Go.RowKit Go.MapKept
theorem TksB.smallP {l : List Tk} (h : TksB 140737488351232 l) : ∀ tk ∈ l, tk.small := fun tk ht => by
  obtain ⟨h1, h2, h3, h4⟩ := h.2 tk ht
  exact ⟨h1, h2, by omega, h4⟩
theorem prints_any (l : List Tk) (hs : ∀ tk ∈ l, tk.small) : ∃ (s : List UInt8) (n : Int), (∀ v W, TkS W v l → Calls Tryd.prog 6 #[v] W fun e w' => e = .returned (.tuple #[.string ⟨s.toArray⟩, .int .i64 n]) ∧ Below W.heap.size W w') ∧ ∀ v W, TkS W v l → U8T W → Calls Tryd.prog 7 #[v] W fun e w' => e = .returned (.tuple #[.string ⟨s.toArray⟩, .int .i64 n]) ∧ Below W.heap.size W w' := by
  cases hr : rightL l with
  | true => exact ⟨printR l, 0, fun v W h => print_good v l W h hs hr, fun v W h hU => refPrint_good v l W h hs hU hr⟩
  | false => exact ⟨[], 3, fun v W h => print_bad v l W h hs hr, fun v W h hU => refPrint_bad v l W h hs hU hr⟩
set_option maxHeartbeats 4000000 in
theorem writePrints_walk (v0 : Value) (a : List Tk) (w : World) (h0 : TkS w v0 a) (hB : TksB 140737488351232 a) (hU : U8T w) :
    Calls Tryd.prog 3 #[v0] w fun e w' => e = .returned (.bool true) ∧ Below w.heap.size w w' := by
  have hs : ∀ tk ∈ a.take 70, tk.small := fun tk ht => hB.smallP tk (List.mem_of_mem_take ht)
  obtain ⟨s, n, hP, hRP⟩ := prints_any (a.take 70) hs
  have hR := fun v W h => right_full v (a.take 70) W h hs
  have hW := fun v W h => whole_full v (a.take 70) W h hs
  have hRR := fun v W h hU => refRight_any v (a.take 70) W h hs hU
  have hRW := fun v W h hU => refWhole_any v (a.take 70) W h hs hU
  generalize rightL (a.take 70) = br at hR hRR
  generalize wholeL (a.take 70) = bw at hW hRW
  replace hs := Lib.hid hs
  replace hP := Lib.hid hP
  replace hRP := Lib.hid hRP
  replace hR := Lib.hid hR
  replace hW := Lib.hid hW
  replace hRR := Lib.hid hRR
  replace hRW := Lib.hid hRW
  replace hU := Lib.hid hU
  replace h0 := Lib.hid h0
  replace hB := Lib.hid hB
  go_enter Tryd.func3, Tryd.ntmps3
  go_wp2_with (first
    | (go_at_call 5
       refine (few_any v0 a _ h0.out).mono ?_
       rintro e w1 ⟨u1, rfl, f1, rfl⟩
       replace f1 := Lib.hid f1
       have hb := Lib.hid (Below.refl w1.heap.size w1)
       have hu := hU)
    | (go_at_call 6
       refine (hP.out u1 _ f1.out).mono ?_
       rintro e w2 ⟨rfl, hb2⟩
       replace f1 := Lib.hid (f1.out.below hb2)
       replace hu := Lib.hid (hu.out.below hb2)
       replace hb := Lib.hid (belowT hb.out hb2))
    | (go_at_call 7
       refine (hRP.out u1 _ f1.out hu.out).mono ?_
       rintro e w2 ⟨rfl, hb2⟩
       replace f1 := Lib.hid (f1.out.below hb2)
       replace hu := Lib.hid (hu.out.below hb2)
       replace hb := Lib.hid (belowT hb.out hb2))
    | (go_at_call 8
       refine (live_any _).mono ?_
       rintro e w2 ⟨rfl, hb2⟩
       replace f1 := Lib.hid (f1.out.below hb2)
       replace hu := Lib.hid (hu.out.below hb2)
       replace hb := Lib.hid (belowT hb.out hb2))
    | (go_at_call 9
       refine (hR.out u1 _ f1.out).mono ?_
       rintro e w2 ⟨rfl, hb2⟩
       replace f1 := Lib.hid (f1.out.below hb2)
       replace hu := Lib.hid (hu.out.below hb2)
       replace hb := Lib.hid (belowT hb.out hb2))
    | (go_at_call 10
       refine (hRR.out u1 _ f1.out hu.out).mono ?_
       rintro e w2 ⟨rfl, hb2⟩
       replace f1 := Lib.hid (f1.out.below hb2)
       replace hu := Lib.hid (hu.out.below hb2)
       replace hb := Lib.hid (belowT hb.out hb2))
    | (go_at_call 11
       refine (hW.out u1 _ f1.out).mono ?_
       rintro e w2 ⟨rfl, hb2⟩
       replace f1 := Lib.hid (f1.out.below hb2)
       replace hu := Lib.hid (hu.out.below hb2)
       replace hb := Lib.hid (belowT hb.out hb2))
    | (go_at_call 12
       refine (hRW.out u1 _ f1.out hu.out).mono ?_
       rintro e w2 ⟨rfl, hb2⟩
       replace f1 := Lib.hid (f1.out.below hb2)
       replace hu := Lib.hid (hu.out.below hb2)
       replace hb := Lib.hid (belowT hb.out hb2)))
  go_ret
  exact ⟨by first | rfl | simp, hb.out⟩
end Go.Proofs.YtadahlffdhgapaaDoor
