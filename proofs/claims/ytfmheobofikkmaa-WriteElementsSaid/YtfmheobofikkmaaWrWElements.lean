/-
  The walk of WriteElements.
-/
import Derived.Test.YtfmheobofikkmaaWrWSame
import Derived.Test.YtfmheobofikkmaaWrWWraps
import Derived.Test.YtfmheobofikkmaaWrRefElem
import Derived.Test.YtfmheobofikkmaaWrRefAttr
namespace Go.Proofs.Ytfmheobofikkmaa
set_option linter.unusedVariables false
set_option linter.unusedSimpArgs false
open Go.RowKit Go.MapKept
theorem tk_head {w : World} {p : Option Addr} {c n : Nat} {name : List UInt8} {al : Ats} {l : List Tk} (h : TkS w (.slice p n c) (elemL name al l)) : ∃ b o sv, p = some ⟨b, o, none⟩ ∧ b < w.heap.size ∧
    w.cell? ⟨b, o, none⟩ = some (.int .u8 1) ∧ w.cell? ⟨b, o + 1, none⟩ = some (.string ⟨name.toArray⟩) ∧ w.cell? ⟨b, o + 2, none⟩ = some sv ∧ w.cell? ⟨b, o + 3, none⟩ = some (.string ⟨#[]⟩) ∧ AtS w sv al := by
  obtain ⟨ptr, cap, he, _, _, h3⟩ := h
  injection he with he _ _
  subst he
  obtain ⟨b, o, rfl, hb, hc⟩ := h3 (by simp [elemL])
  obtain ⟨sv, c0, c1, c2, c3, c4⟩ := hc 0 (by simp [elemL])
  exact ⟨b, o, sv, rfl, hb, c0, c1, c2, c3, c4⟩
theorem attrV_shape (x : List UInt8) (al : Ats) : ∃ v b, attrV x al = .tuple #[.string ⟨v⟩, .bool b] := by
  unfold attrV
  split
  · exact ⟨_, _, rfl⟩
  · exact ⟨_, _, rfl⟩
theorem AtS.take {w : World} {p : Option Addr} {n c : Nat} {al : Ats} (h : AtS w (.slice p n c) al) (h40 : 40 < al.length) : AtS w (.slice p 40 c) (al.take 40) := by
  obtain ⟨ptr, cap, he, h1, h2, h3⟩ := h
  injection he with he _ hec
  subst he hec
  have hl : (al.take 40).length = 40 := by rw [List.length_take]; omega
  refine ⟨p, c, by rw [hl], by omega, h2, fun _ => ?_⟩
  obtain ⟨b, o, rfl, hb, hc⟩ := h3 (by omega)
  refine ⟨b, o, rfl, hb, fun i hi => ?_⟩
  rw [hl] at hi
  rw [List.getElem_take]
  exact hc i (by omega)
set_option maxHeartbeats 8000000 in
theorem writeElements_of (name : List UInt8) (sv : Value) (al : Ats) (v2 : Value) (ins : List Tk) (w : World) (hA : AtS w sv al) (hal : al.length * 32 ≤ 140737488351232) (h2 : TkS w v2 ins) (hat : ∀ tk ∈ ins, tk.as.length * 32 ≤ 140737488351232) (h70 : ins.length ≤ 70) (v0 : Value) (hF : Calls Try.prog 8 #[v0] w fun e w' => e = .returned v2 ∧ w' = w) :
    Calls Try.prog 5 #[.string ⟨name.toArray⟩, sv, v0] w fun e w' => e = .returned (.bool true) ∧ Below w.heap.size w w' := by
  have hL := Lib.hid live_any
  replace hF := Lib.hid hF
  obtain ⟨sp, sc, rfl⟩ : ∃ a c, sv = .slice a al.length c := by obtain ⟨a, c, h, -⟩ := hA; exact ⟨a, c, h⟩
  have hmx : (al.length : Int) ≤ 9223372036854775807 := by omega
  have hcap : al.length ≤ sc := by obtain ⟨_, _, he, h, _⟩ := hA; injection he with _ _ he; omega
  have hscm : (sc : Int) ≤ 9223372036854775807 := by obtain ⟨_, _, he, _, h, _⟩ := hA; injection he with _ _ he; unfold maxLen at h; omega
  by_cases h40 : 40 < al.length
  · have hA4 := hA.take h40
    have hlt40 : (al.take 40).length * 32 ≤ 140737488351232 := by rw [List.length_take]; omega
    have hE := element_any name _ v2 (al.take 40) ins w hA4 (hlt40) h2 (by omega) hat
    have hE0 := fun W hb => refElement_any name _ v2 (al.take 40) ins W (AtS.below hA4 hb) (hlt40) (TkS.below h2 hb) (by omega) hat
    have hlen : (elemL name (al.take 40) ins).length = ins.length + 2 := by simp [elemL]
    obtain ⟨av, ab, hav⟩ := attrV_shape [116, 111] (al.take 40)
    obtain ⟨pz, cz, rfl⟩ := h2.shape
    replace hE := Lib.hid hE
    replace hE0 := Lib.hid hE0
    replace hlen := Lib.hid hlen
    replace hav := Lib.hid hav
    clear h2 hat
    clear hA hA4 hlt40
    go_enter Try.func5, Try.ntmps5
    go_wp2_with (first
      | (go_at_call 8; refine hF.out.mono ?_; rintro e w1 ⟨rfl, rfl⟩)
      | (go_at_call 9; refine hE.out.mono ?_; rintro e w1 ⟨v1, rfl, hT1, hb1⟩
         obtain ⟨p1, c1, hv1⟩ := hT1.shape
         rw [hlen.out] at hv1
         subst hv1
         have hH1 := tk_head hT1
         obtain ⟨b1, o1, sv1, hp1, hbl1, d0, d1, d2, d3, hS1⟩ := hH1
         subst hp1
         replace hT1 := Lib.hid hT1
         replace hS1 := Lib.hid hS1
         replace hb1 := Lib.hid hb1)
      | (go_at_call 14; refine (hE0.out _ hb1.out).mono ?_; rintro e w2 ⟨v2, rfl, hT2, hb2⟩
         obtain ⟨p2, c2, hv2⟩ := hT2.shape
         rw [hlen.out] at hv2
         subst hv2
         have hH2 := tk_head hT2
         obtain ⟨b2, o2, sv2, hp2, hbl2, e0, e1, e2, e3, hS2⟩ := hH2
         subst hp2
         replace hT2 := Lib.hid hT2
         replace hS2 := Lib.hid hS2
         replace hT1 := Lib.hid (hT1.out.below hb2)
         replace hS1 := Lib.hid (hS1.out.below hb2)
         have kc := (bat hb2 b1 hbl1).1
         replace d0 := (kc _).trans d0
         replace d1 := (kc _).trans d1
         replace d2 := (kc _).trans d2
         replace d3 := (kc _).trans d3
         clear kc
         have q2 := Lib.hid (belowT hb1.out hb2)
         clear hb2)
      | (go_at_call 15; refine (attr_any 1 [116, 111] name [] _ _ _ hS1.out).mono ?_; rintro e w3 ⟨rfl, hb3⟩
         rw [hav.out]
         have kc := (bat hb3 b2 hbl2).1
         replace e0 := (kc _).trans e0
         replace e1 := (kc _).trans e1
         replace e2 := (kc _).trans e2
         replace e3 := (kc _).trans e3
         clear kc d0 d1 d2 d3
         replace hT1 := Lib.hid (hT1.out.below hb3)
         replace hT2 := Lib.hid (hT2.out.below hb3)
         replace hS2 := Lib.hid (hS2.out.below hb3)
         have q3 := Lib.hid (belowT q2.out hb3)
         clear hb3)
      | (go_at_call 16; refine (refAttr_any 1 [116, 111] name [] _ _ _ hS2.out).mono ?_; rintro e w4 ⟨rfl, hb4⟩
         rw [hav.out]
         replace hT1 := Lib.hid (hT1.out.below hb4)
         replace hT2 := Lib.hid (hT2.out.below hb4)
         have q4 := Lib.hid (belowT q3.out hb4)
         clear hb4 e0 e1 e2 e3)
      | (go_at_call 11; refine (hL.out _).mono ?_; rintro e w5 ⟨rfl, hb5⟩
         replace hT1 := Lib.hid (hT1.out.below hb5)
         replace hT2 := Lib.hid (hT2.out.below hb5)
         have q5 := Lib.hid (belowT q4.out hb5)
         clear hb5)
      | (go_at_call 17; refine (refSame_any _ _ _ _ _ hT1.out hT2.out).mono ?_; rintro e w6 ⟨rfl, hb6⟩
         rw [same_refl]
         have q6 := Lib.hid (belowT q5.out hb6)
         clear hb6))
    go_ret
    exact ⟨rfl, q6.out⟩
  · have hE := element_any name _ v2 al ins w hA (hal) h2 (by omega) hat
    have hE0 := fun W hb => refElement_any name _ v2 al ins W (AtS.below hA hb) (hal) (TkS.below h2 hb) (by omega) hat
    have hlen : (elemL name al ins).length = ins.length + 2 := by simp [elemL]
    obtain ⟨av, ab, hav⟩ := attrV_shape [116, 111] al
    obtain ⟨pz, cz, rfl⟩ := h2.shape
    replace hE := Lib.hid hE
    replace hE0 := Lib.hid hE0
    replace hlen := Lib.hid hlen
    replace hav := Lib.hid hav
    clear h2 hat
    clear hA
    go_enter Try.func5, Try.ntmps5
    go_wp2_with (first
      | (go_at_call 8; refine hF.out.mono ?_; rintro e w1 ⟨rfl, rfl⟩)
      | (go_at_call 9; refine hE.out.mono ?_; rintro e w1 ⟨v1, rfl, hT1, hb1⟩
         obtain ⟨p1, c1, hv1⟩ := hT1.shape
         rw [hlen.out] at hv1
         subst hv1
         have hH1 := tk_head hT1
         obtain ⟨b1, o1, sv1, hp1, hbl1, d0, d1, d2, d3, hS1⟩ := hH1
         subst hp1
         replace hT1 := Lib.hid hT1
         replace hS1 := Lib.hid hS1
         replace hb1 := Lib.hid hb1)
      | (go_at_call 14; refine (hE0.out _ hb1.out).mono ?_; rintro e w2 ⟨v2, rfl, hT2, hb2⟩
         obtain ⟨p2, c2, hv2⟩ := hT2.shape
         rw [hlen.out] at hv2
         subst hv2
         have hH2 := tk_head hT2
         obtain ⟨b2, o2, sv2, hp2, hbl2, e0, e1, e2, e3, hS2⟩ := hH2
         subst hp2
         replace hT2 := Lib.hid hT2
         replace hS2 := Lib.hid hS2
         replace hT1 := Lib.hid (hT1.out.below hb2)
         replace hS1 := Lib.hid (hS1.out.below hb2)
         have kc := (bat hb2 b1 hbl1).1
         replace d0 := (kc _).trans d0
         replace d1 := (kc _).trans d1
         replace d2 := (kc _).trans d2
         replace d3 := (kc _).trans d3
         clear kc
         have q2 := Lib.hid (belowT hb1.out hb2)
         clear hb2)
      | (go_at_call 15; refine (attr_any 1 [116, 111] name [] _ _ _ hS1.out).mono ?_; rintro e w3 ⟨rfl, hb3⟩
         rw [hav.out]
         have kc := (bat hb3 b2 hbl2).1
         replace e0 := (kc _).trans e0
         replace e1 := (kc _).trans e1
         replace e2 := (kc _).trans e2
         replace e3 := (kc _).trans e3
         clear kc d0 d1 d2 d3
         replace hT1 := Lib.hid (hT1.out.below hb3)
         replace hT2 := Lib.hid (hT2.out.below hb3)
         replace hS2 := Lib.hid (hS2.out.below hb3)
         have q3 := Lib.hid (belowT q2.out hb3)
         clear hb3)
      | (go_at_call 16; refine (refAttr_any 1 [116, 111] name [] _ _ _ hS2.out).mono ?_; rintro e w4 ⟨rfl, hb4⟩
         rw [hav.out]
         replace hT1 := Lib.hid (hT1.out.below hb4)
         replace hT2 := Lib.hid (hT2.out.below hb4)
         have q4 := Lib.hid (belowT q3.out hb4)
         clear hb4 e0 e1 e2 e3)
      | (go_at_call 11; refine (hL.out _).mono ?_; rintro e w5 ⟨rfl, hb5⟩
         replace hT1 := Lib.hid (hT1.out.below hb5)
         replace hT2 := Lib.hid (hT2.out.below hb5)
         have q5 := Lib.hid (belowT q4.out hb5)
         clear hb5)
      | (go_at_call 17; refine (refSame_any _ _ _ _ _ hT1.out hT2.out).mono ?_; rintro e w6 ⟨rfl, hb6⟩
         rw [same_refl]
         have q6 := Lib.hid (belowT q5.out hb6)
         clear hb6))
    go_ret
    exact ⟨rfl, q6.out⟩
theorem writeElements_walk (name : List UInt8) (sv : Value) (al : Ats) (v0 : Value) (l : List Tk) (w : World) (hn : name.length ≤ 140737488351232) (hA : AtS w sv al) (hAB : AtsB 140737488351232 al) (hT : TkS w v0 l) (hB : TksB 140737488351232 l) :
    Calls Try.prog 5 #[.string ⟨name.toArray⟩, sv, v0] w fun e w' => e = .returned (.bool true) ∧ Below w.heap.size w w' := by
  obtain ⟨v2, hv2, hT2⟩ := few_fix v0 l w hT
  exact writeElements_of name sv al v2 (l.take 70) w hA hAB.1 hT2 (fun tk ht => ((hB.take 70).2 tk ht).2.2.1) (by rw [List.length_take]; omega) v0 hv2
end Go.Proofs.Ytfmheobofikkmaa
