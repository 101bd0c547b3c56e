/-
  The walk of StanzaReads.
-/
import Derived.Test.YtcfkegfddiglcaaDoorRsAll
import Derived.Test.YtcfkegfddiglcaaDoorStRow
import Derived.Test.YtcfkegfddiglcaaDoorStSame
import Derived.Test.YtcfkegfddiglcaaDoorOpenTk
namespace Go.Proofs.YtcfkegfddiglcaaDoor
set_option linter.unusedVariables false
set_option linter.unusedSimpArgs false
open Go.RowKit Go.MapKept
theorem take70 {w : World} {p : Option Addr} {c : Nat} {l : List Tk} (h : TkS w (.slice p l.length c) l) (h70 : 70 < l.length) : TkS w (.slice p 70 c) (l.take 70) := by
  obtain ⟨ptr, cap, he, hcap, hcapm, htk⟩ := h
  injection he with e1 e2 e3
  subst e1 e3
  refine ⟨_, _, by rw [List.length_take, show min 70 l.length = 70 by omega], by rw [List.length_take]; omega, hcapm, fun _ => ?_⟩
  obtain ⟨b, o, e, hb, hc⟩ := htk (by omega)
  refine ⟨b, o, e, hb, fun i hi => ?_⟩
  rw [List.length_take] at hi
  rw [List.getElem_take]
  exact hc i (by omega)
set_option maxRecDepth 100000 in
set_option maxHeartbeats 4000000 in
theorem stanzaReads_walk (v0 : Value) (a : List Tk) (w : World) (h0 : TkS w v0 a) (hB : TksB 140737488351232 a) (hU : U8T w) :
    Calls Tryd.prog 3 #[v0] w fun e w' => e = .returned (.bool true) ∧ Below w.heap.size w w' := by
  have hs : ∀ tk ∈ a.take 70, tk.small ∧ tk.as.length * 32 ≤ 140737488351232 := fun tk ht => small_of hB tk (List.mem_of_mem_take ht)
  have hl : (a.take 70).length ≤ 1000 := by rw [List.length_take]; omega
  obtain ⟨Z, hZ⟩ : ∃ Z, (decZ (a.take 70)).getD zero0 = Z := ⟨_, rfl⟩
  have hD1 : Hid (∀ v W, TkS W v (a.take 70) → Calls Tryd.prog 4 #[v] W fun e w' => ∃ p n c, e = .returned (.tuple #[.agg #[.int .u8 Z.k, .string ⟨Z.ty.toArray⟩, .string ⟨Z.fr.toArray⟩, .string ⟨Z.tt.toArray⟩, .string ⟨Z.id.toArray⟩, .slice p n c], .int .i64 (errE (decZ (a.take 70)).isSome)]) ∧ TkS w' (.slice p n c) Z.pl ∧ Below W.heap.size W w') := Lib.hid fun v W h =>
    (decode_any v _ W h hs hl).mono fun e w' ⟨sv, z, he, hz, ht, hb⟩ => by
      obtain rfl := hZ.symm.trans hz
      obtain ⟨p, c, e1, -⟩ := id ht
      subst e1
      exact ⟨_, _, _, he, ht, hb⟩
  have hD2 : Hid (∀ v W, TkS W v (a.take 70) → U8T W → Calls Tryd.prog 5 #[v] W fun e w' => ∃ p n c, e = .returned (.tuple #[.agg #[.int .u8 Z.k, .string ⟨Z.ty.toArray⟩, .string ⟨Z.fr.toArray⟩, .string ⟨Z.tt.toArray⟩, .string ⟨Z.id.toArray⟩, .slice p n c], .int .i64 (errE (decZ (a.take 70)).isSome)]) ∧ TkS w' (.slice p n c) Z.pl ∧ Below W.heap.size W w') := Lib.hid fun v W h hu =>
    (ref06Decode_any v _ W h hs hl hu).mono fun e w' ⟨sv, z, he, hz, ht, hb⟩ => by
      obtain rfl := hZ.symm.trans hz
      obtain ⟨p, c, e1, -⟩ := id ht
      subst e1
      exact ⟨_, _, _, he, ht, hb⟩
  have hS : Hid (∀ v1 v2 W, TkS W v1 Z.pl → TkS W v2 Z.pl → Calls Tryd.prog 7 #[.agg #[.int .u8 Z.k, .string ⟨Z.ty.toArray⟩, .string ⟨Z.fr.toArray⟩, .string ⟨Z.tt.toArray⟩, .string ⟨Z.id.toArray⟩, v1], .agg #[.int .u8 Z.k, .string ⟨Z.ty.toArray⟩, .string ⟨Z.fr.toArray⟩, .string ⟨Z.tt.toArray⟩, .string ⟨Z.id.toArray⟩, v2]] W fun e w' => e = .returned (.bool true) ∧ Below W.heap.size W w') := Lib.hid fun v1 v2 W h1 h2 =>
    (same06_any Z Z v1 v2 W h1 h2).mono fun e w' ⟨he, hb⟩ => ⟨by rw [he, sameZ_refl], hb⟩
  generalize errE (decZ (a.take 70)).isSome = er at hD1 hD2
  clear hs hl hZ
  replace hU := Lib.hid hU
  replace hB := Lib.hid hB
  obtain ⟨p0, c0, rfl, -⟩ := id h0
  by_cases h70 : 70 < a.length
  · have hT := Lib.hid (take70 h0 h70)
    have h70i : (70 : Int) < a.length := by omega
    have hm : a.length ≤ c0 ∧ c0 ≤ maxLen := by obtain ⟨q, d, e, g1, g2, -⟩ := h0; injection e with e1 e2 e3; subst e3; exact ⟨g1, g2⟩
    obtain ⟨hm1, hm2⟩ := hm
    have hmx : (a.length : Int) ≤ 9223372036854775807 := by unfold maxLen at hm2; omega
    replace h0 := Lib.hid h0
    go_enter Tryd.func3, Tryd.ntmps3
    go_wp2_with (first
      | (go_at_call 4
         refine (hD1.out _ _ hT.out).mono ?_
         rintro e w1 ⟨p1, n1, c1, rfl, ht1, hb1⟩
         have hb1a := belowT hb1 (below1 w1 (.cells #[.int .u8 Z.k, .string ⟨Z.ty.toArray⟩, .string ⟨Z.fr.toArray⟩, .string ⟨Z.tt.toArray⟩, .string ⟨Z.id.toArray⟩, .slice p1 n1 c1] 25))
         have hT1 := Lib.hid (hT.out.below hb1a)
         have hU1 := Lib.hid (hU.out.below hb1a)
         have ho1 := Lib.hid (heap_alloc w1 (.cells #[.int .u8 Z.k, .string ⟨Z.ty.toArray⟩, .string ⟨Z.fr.toArray⟩, .string ⟨Z.tt.toArray⟩, .string ⟨Z.id.toArray⟩, .slice p1 n1 c1] 25)).1
         replace ht1 := Lib.hid (ht1.below (below1 w1 (.cells #[.int .u8 Z.k, .string ⟨Z.ty.toArray⟩, .string ⟨Z.fr.toArray⟩, .string ⟨Z.tt.toArray⟩, .string ⟨Z.id.toArray⟩, .slice p1 n1 c1] 25)))
         replace hb1a := Lib.hid hb1a
         clear hb1)
      | (go_at_call 5
         refine (hD2.out _ _ hT1.out hU1.out).mono ?_
         rintro e w2 ⟨p2, n2, c2, rfl, ht2, hb2⟩
         have hb2a := belowT hb2 (below1 w2 (.cells #[.int .u8 Z.k, .string ⟨Z.ty.toArray⟩, .string ⟨Z.fr.toArray⟩, .string ⟨Z.tt.toArray⟩, .string ⟨Z.id.toArray⟩, .slice p2 n2 c2] 25))
         have ho2 := Lib.hid (heap_alloc w2 (.cells #[.int .u8 Z.k, .string ⟨Z.ty.toArray⟩, .string ⟨Z.fr.toArray⟩, .string ⟨Z.tt.toArray⟩, .string ⟨Z.id.toArray⟩, .slice p2 n2 c2] 25)).1
         replace ho1 := Lib.hid (obj_alloc (o' := (.cells #[.int .u8 Z.k, .string ⟨Z.ty.toArray⟩, .string ⟨Z.fr.toArray⟩, .string ⟨Z.tt.toArray⟩, .string ⟨Z.id.toArray⟩, .slice p2 n2 c2] 25)) ((hb2.block _ (by simp)).trans ho1.out))
         replace ht1 := Lib.hid (ht1.out.below hb2a)
         replace ht2 := Lib.hid (ht2.below (below1 w2 (.cells #[.int .u8 Z.k, .string ⟨Z.ty.toArray⟩, .string ⟨Z.fr.toArray⟩, .string ⟨Z.tt.toArray⟩, .string ⟨Z.id.toArray⟩, .slice p2 n2 c2] 25)))
         replace hb2a := Lib.hid (belowT hb1a.out hb2a)
         clear hb2)
      | (go_at_call 6
         refine (live6_any _).mono ?_
         rintro e w3 ⟨rfl, hb3⟩
         obtain ⟨xc, xf, xl⟩ := obj_cells ((hb3.block _ (obj_cells ho1.out).2.2).trans ho1.out)
         obtain ⟨yc, yf, yl⟩ := obj_cells ((hb3.block _ (obj_cells ho2.out).2.2).trans ho2.out)
         replace ht1 := Lib.hid (ht1.out.below hb3)
         replace ht2 := Lib.hid (ht2.out.below hb3)
         replace hb3 := Lib.hid (belowT hb2a.out hb3))
      | (go_at_call 7
         refine (hS.out _ _ _ ht1.out ht2.out).mono ?_
         rintro e w4 ⟨rfl, hb4⟩))
    go_ret
    exact ⟨by first | rfl | simp, belowT hb3.out hb4⟩
  · have e70 : a.take 70 = a := List.take_of_length_le (by omega)
    have hT : Hid (TkS w (.slice p0 a.length c0) (a.take 70)) := Lib.hid (by rw [e70]; exact h0)
    have h70b : decide (70 < (a.length : Int)) = false := by simp; omega
    clear e70
    replace h0 := Lib.hid h0
    go_enter Tryd.func3, Tryd.ntmps3
    go_wp2_with (first
      | (go_at_call 4
         refine (hD1.out _ _ hT.out).mono ?_
         rintro e w1 ⟨p1, n1, c1, rfl, ht1, hb1⟩
         have hb1a := belowT hb1 (below1 w1 (.cells #[.int .u8 Z.k, .string ⟨Z.ty.toArray⟩, .string ⟨Z.fr.toArray⟩, .string ⟨Z.tt.toArray⟩, .string ⟨Z.id.toArray⟩, .slice p1 n1 c1] 25))
         have hT1 := Lib.hid (hT.out.below hb1a)
         have hU1 := Lib.hid (hU.out.below hb1a)
         have ho1 := Lib.hid (heap_alloc w1 (.cells #[.int .u8 Z.k, .string ⟨Z.ty.toArray⟩, .string ⟨Z.fr.toArray⟩, .string ⟨Z.tt.toArray⟩, .string ⟨Z.id.toArray⟩, .slice p1 n1 c1] 25)).1
         replace ht1 := Lib.hid (ht1.below (below1 w1 (.cells #[.int .u8 Z.k, .string ⟨Z.ty.toArray⟩, .string ⟨Z.fr.toArray⟩, .string ⟨Z.tt.toArray⟩, .string ⟨Z.id.toArray⟩, .slice p1 n1 c1] 25)))
         replace hb1a := Lib.hid hb1a
         clear hb1)
      | (go_at_call 5
         refine (hD2.out _ _ hT1.out hU1.out).mono ?_
         rintro e w2 ⟨p2, n2, c2, rfl, ht2, hb2⟩
         have hb2a := belowT hb2 (below1 w2 (.cells #[.int .u8 Z.k, .string ⟨Z.ty.toArray⟩, .string ⟨Z.fr.toArray⟩, .string ⟨Z.tt.toArray⟩, .string ⟨Z.id.toArray⟩, .slice p2 n2 c2] 25))
         have ho2 := Lib.hid (heap_alloc w2 (.cells #[.int .u8 Z.k, .string ⟨Z.ty.toArray⟩, .string ⟨Z.fr.toArray⟩, .string ⟨Z.tt.toArray⟩, .string ⟨Z.id.toArray⟩, .slice p2 n2 c2] 25)).1
         replace ho1 := Lib.hid (obj_alloc (o' := (.cells #[.int .u8 Z.k, .string ⟨Z.ty.toArray⟩, .string ⟨Z.fr.toArray⟩, .string ⟨Z.tt.toArray⟩, .string ⟨Z.id.toArray⟩, .slice p2 n2 c2] 25)) ((hb2.block _ (by simp)).trans ho1.out))
         replace ht1 := Lib.hid (ht1.out.below hb2a)
         replace ht2 := Lib.hid (ht2.below (below1 w2 (.cells #[.int .u8 Z.k, .string ⟨Z.ty.toArray⟩, .string ⟨Z.fr.toArray⟩, .string ⟨Z.tt.toArray⟩, .string ⟨Z.id.toArray⟩, .slice p2 n2 c2] 25)))
         replace hb2a := Lib.hid (belowT hb1a.out hb2a)
         clear hb2)
      | (go_at_call 6
         refine (live6_any _).mono ?_
         rintro e w3 ⟨rfl, hb3⟩
         obtain ⟨xc, xf, xl⟩ := obj_cells ((hb3.block _ (obj_cells ho1.out).2.2).trans ho1.out)
         obtain ⟨yc, yf, yl⟩ := obj_cells ((hb3.block _ (obj_cells ho2.out).2.2).trans ho2.out)
         replace ht1 := Lib.hid (ht1.out.below hb3)
         replace ht2 := Lib.hid (ht2.out.below hb3)
         replace hb3 := Lib.hid (belowT hb2a.out hb3))
      | (go_at_call 7
         refine (hS.out _ _ _ ht1.out ht2.out).mono ?_
         rintro e w4 ⟨rfl, hb4⟩))
    go_ret
    exact ⟨by first | rfl | simp, belowT hb3.out hb4⟩
end Go.Proofs.YtcfkegfddiglcaaDoor
