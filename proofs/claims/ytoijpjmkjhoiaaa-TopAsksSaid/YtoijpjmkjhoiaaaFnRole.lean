/-
  Somebody's role and subscription at a node, and whether they may read, by the program. Condition: at most 1000 affiliations and 1000 subscriptions.
-/
import Derived.Test.YtoijpjmkjhoiaaaFnIdx
import Derived.Deep.DeepCutAuto
namespace Go.Proofs.Ytoijpjmkjhoiaaa
set_option linter.unusedVariables false
set_option linter.unusedSimpArgs false
open Go.RowKit Go.MapKept Go.Shelf
def ndC (n : Nd) (afv sbv itv : Value) : Array Value := #[.string ⟨n.nm.toArray⟩, .bool n.co, .int .u8 n.ac, .int .i64 n.mx, afv, sbv, itv, .string ⟨n.pa.toArray⟩]
theorem role1_any (e : Tx × Nat) (s : Tx) (B : Nat) (W : World) (hbl : W.heap[B]? = some (.cells #[.string ⟨s.toArray⟩] 9)) :
    Calls Try.prog 35 #[.agg #[.string ⟨e.1.toArray⟩, .int .u8 e.2], .pointer (some ⟨B, 0, none⟩)] W fun r w' => r = .returned (.bool (e.1 == s)) ∧ Below W.heap.size W w' := by
  obtain ⟨lc, -, ll⟩ := obj_cells hbl
  obtain ⟨ch, pa⟩ := e
  simp only
  clear hbl
  go_enter Try.func35, Try.ntmps35
  go_wp2
  go_ret
  exact ⟨rfl, below1 _ _⟩
theorem sub1_any (e : Tx × Bool × Int) (s : Tx) (B : Nat) (W : World) (hbl : W.heap[B]? = some (.cells #[.string ⟨s.toArray⟩] 9)) :
    Calls Try.prog 37 #[.agg #[.string ⟨e.1.toArray⟩, .bool e.2.1, .int .i64 e.2.2], .pointer (some ⟨B, 0, none⟩)] W fun r w' => r = .returned (.bool (e.1 == s)) ∧ Below W.heap.size W w' := by
  obtain ⟨lc, -, ll⟩ := obj_cells hbl
  obtain ⟨ch, pa, dp⟩ := e
  simp only
  clear hbl
  go_enter Try.func37, Try.ntmps37
  go_wp2
  go_ret
  exact ⟨rfl, below1 _ _⟩
set_option maxHeartbeats 2000000 in
theorem role_any (n : Nd) (afv sbv itv : Value) (s : Tx) (w : World) (hA : AfS w afv n.af) (hl : n.af.length ≤ 1000) :
    Calls Try.prog 12 #[.agg (ndC n afv sbv itv), .string ⟨s.toArray⟩] w fun e w' => e = .returned (.int .u8 (roleN n s)) ∧ Below w.heap.size w w' := by
  have eg := enters_of (P := Try.prog) Try.func35 (by kernel_rfl) rfl
  obtain ⟨vp, vc, rfl⟩ : ∃ a c, afv = .slice a n.af.length c := by obtain ⟨a, c, h, -⟩ := hA; exact ⟨a, c, h⟩
  obtain ⟨nm, co, ac, mx, af, sb, pa⟩ := n
  simp only at hA hl
  unfold ndC
  simp only
  obtain ⟨N, hN⟩ : ∃ N, af.length = N := ⟨_, rfl⟩
  have hN1 : N ≤ 1000 := by omega
  have hro : Hid (∀ i, IxAt af (fun p => p.1 == s) i → (i = -1 ∧ roleN ⟨nm, co, ac, mx, af, sb, pa⟩ s = 2) ∨ ∃ (k : Nat) (hk : k < af.length), i = k ∧ roleN ⟨nm, co, ac, mx, af, sb, pa⟩ s = (af[k]'hk).2) := Lib.hid (by
    rintro i (⟨rfl, h⟩ | ⟨k, rfl, hk, h1, h2⟩)
    · exact .inl ⟨rfl, by unfold roleN; rw [find_no h]; rfl⟩
    · exact .inr ⟨k, hk, rfl, by unfold roleN; rw [find_at hk h1 h2]; rfl⟩)
  generalize roleN ⟨nm, co, ac, mx, af, sb, pa⟩ s = R at hro ⊢
  generalize hw0 : (w.alloc (.cells #[.string ⟨nm.toArray⟩, .bool co, .int .u8 ac, .int .i64 mx, .slice vp af.length vc, sbv, itv, .string ⟨pa.toArray⟩] 30)).alloc (.cells #[.string ⟨s.toArray⟩] 9) = w0
  have hb0 : Below w.heap.size w w0 := by rw [← hw0]; exact belowA (below1 _ _) _
  have hbs : w0.heap[w.heap.size + 1]? = some (.cells #[.string ⟨s.toArray⟩] 9) := by
    rw [← hw0]
    have := (heap_alloc (w.alloc (.cells #[.string ⟨nm.toArray⟩, .bool co, .int .u8 ac, .int .i64 mx, .slice vp af.length vc, sbv, itv, .string ⟨pa.toArray⟩] 30)) (.cells #[.string ⟨s.toArray⟩] 9)).1
    rwa [World.size_alloc] at this
  have hbn : w0.heap[w.heap.size]? = some (.cells #[.string ⟨nm.toArray⟩, .bool co, .int .u8 ac, .int .i64 mx, .slice vp af.length vc, sbv, itv, .string ⟨pa.toArray⟩] 30) := by rw [← hw0]; exact obj_alloc (heap_alloc _ _).1
  have l0 := (Array.getElem?_eq_some_iff.1 hbn).1
  have l1 := (Array.getElem?_eq_some_iff.1 hbs).1
  have hA1 := hA.below hb0
  have hC : Hid (Calls Try.prog 34 #[.slice vp N vc, .func (.func 35) #[] #[.pointer (some ⟨w.heap.size + 1, 0, none⟩)]] w0 fun e w' => ∃ i : Int, e = .returned (.int .i64 i) ∧ IxAt af (fun p => p.1 == s) i ∧ Below w0.heap.size w0 w') := Lib.hid (by
    have := ixAff_any (.slice vp af.length vc) af w0 hA1 (by omega) 35 #[.pointer (some ⟨w.heap.size + 1, 0, none⟩)] (fun p => p.1 == s) eg (fun W e hb => role1_any e s (w.heap.size + 1) W ((hb.block _ l1).trans hbs))
    rwa [hN] at this)
  have hcn : Hid (∀ W, Below w0.heap.size w0 W → W.cell? ⟨w.heap.size, 4, none⟩ = some (.slice vp N vc) ∧ w.heap.size < W.heap.size) := Lib.hid fun W hb => ⟨((bat hb _ l0).1 4).trans (by rw [(obj_cells hbn).1]; simp [hN]), Nat.lt_of_lt_of_le l0 hb.size⟩
  obtain ⟨c4, lw⟩ := hcn.out w0 (Below.refl _ _)
  rw [hN] at hw0 ⊢
  replace hA1 := Lib.hid hA1
  replace hb0 := Lib.hid hb0
  replace hN := Lib.hid hN
  clear hbs hbn l0 l1 hA hl
  go_enter Try.func12, Try.ntmps12
  go_upto_if 11 with (go_at_call 34; refine hC.out.mono ?_; rintro e w1 ⟨i, rfl, hi, hb1⟩; obtain ⟨d4, lw1⟩ := hcn.out w1 hb1; replace hb1 := Lib.hid hb1; replace hi := Lib.hid hi)
  rcases hro.out i hi.out with ⟨rfl, rfl⟩ | ⟨k, hk, rfl, hR⟩
  · clear hi hro hC hcn hA1
    go_wp2
    go_ret
    exact ⟨rfl, belowT hb0.out hb1.out⟩
  · obtain ⟨p', c', he, -, -, hat⟩ := hA1.out.below hb1.out
    obtain ⟨rfl, -, rfl⟩ := Value.slice.inj he
    obtain ⟨b, o, rfl, hb, hcc⟩ := hat (by omega)
    obtain ⟨-, d1⟩ := hcc k hk
    have hki : (k : Int) < (N : Int) := by have := hN.out; omega
    have hk0 : (0 : Int) ≤ (k : Int) := by omega
    obtain ⟨y, hy⟩ : ∃ y, (af[k]'hk).2 = y := ⟨_, rfl⟩
    rw [hy] at d1 hR
    subst hR
    replace hy := Lib.hid hy
    replace hcc := Lib.hid hcc
    clear hi hro hC hcn hA1 hat he
    replace hk := Lib.hid hk
    go_wp2
    go_ret
    exact ⟨rfl, belowT hb0.out hb1.out⟩
set_option maxHeartbeats 2000000 in
/-- somebody's subscription -/
theorem sub_any (n : Nd) (afv sbv itv : Value) (s : Tx) (w : World) (hA : SuS w sbv n.sb) (hl : n.sb.length ≤ 1000) :
    Calls Try.prog 13 #[.agg (ndC n afv sbv itv), .string ⟨s.toArray⟩] w fun e w' => (∃ x, e = .returned (.tuple #[.agg #[.string ⟨(x : Tx × Bool × Int).1.toArray⟩, .bool x.2.1, .int .i64 x.2.2], .bool (subN n s).isSome]) ∧ ∀ y, subN n s = some y → x = y) ∧ Below w.heap.size w w' := by
  have eg := enters_of (P := Try.prog) Try.func37 (by kernel_rfl) rfl
  obtain ⟨vp, vc, rfl⟩ : ∃ a c, sbv = .slice a n.sb.length c := by obtain ⟨a, c, h, -⟩ := hA; exact ⟨a, c, h⟩
  obtain ⟨nm, co, ac, mx, af, sb, pa⟩ := n
  simp only at hA hl
  unfold ndC
  simp only
  obtain ⟨N, hN⟩ : ∃ N, sb.length = N := ⟨_, rfl⟩
  have hN1 : N ≤ 1000 := by omega
  have hro : Hid (∀ i, IxAt sb (fun p => p.1 == s) i → (i = -1 ∧ subN ⟨nm, co, ac, mx, af, sb, pa⟩ s = none) ∨ ∃ (k : Nat) (hk : k < sb.length), i = k ∧ subN ⟨nm, co, ac, mx, af, sb, pa⟩ s = some (sb[k]'hk)) := Lib.hid (by
    rintro i (⟨rfl, h⟩ | ⟨k, rfl, hk, h1, h2⟩)
    · exact .inl ⟨rfl, by unfold subN; rw [find_no h]⟩
    · exact .inr ⟨k, hk, rfl, by unfold subN; rw [find_at hk h1 h2]⟩)
  generalize subN ⟨nm, co, ac, mx, af, sb, pa⟩ s = R at hro ⊢
  generalize hw0 : ((w.alloc (.cells #[.string ⟨nm.toArray⟩, .bool co, .int .u8 ac, .int .i64 mx, afv, .slice vp sb.length vc, itv, .string ⟨pa.toArray⟩] 30)).alloc (.cells #[.string ⟨s.toArray⟩] 9)).alloc (.cells #[.string ⟨#[]⟩, .bool false, .int .i64 0] 46) = w0
  have hb0 : Below w.heap.size w w0 := by rw [← hw0]; exact belowA (belowA (below1 _ _) _) _
  have hbs : w0.heap[w.heap.size + 1]? = some (.cells #[.string ⟨s.toArray⟩] 9) := by
    rw [← hw0]
    refine obj_alloc ?_
    have := (heap_alloc (w.alloc (.cells #[.string ⟨nm.toArray⟩, .bool co, .int .u8 ac, .int .i64 mx, afv, .slice vp sb.length vc, itv, .string ⟨pa.toArray⟩] 30)) (.cells #[.string ⟨s.toArray⟩] 9)).1
    rwa [World.size_alloc] at this
  have hbn : w0.heap[w.heap.size]? = some (.cells #[.string ⟨nm.toArray⟩, .bool co, .int .u8 ac, .int .i64 mx, afv, .slice vp sb.length vc, itv, .string ⟨pa.toArray⟩] 30) := by rw [← hw0]; exact obj_alloc (obj_alloc (heap_alloc _ _).1)
  have hbz : w0.heap[w.heap.size + 2]? = some (.cells #[.string ⟨#[]⟩, .bool false, .int .i64 0] 46) := by
    rw [← hw0]
    have := (heap_alloc ((w.alloc (.cells #[.string ⟨nm.toArray⟩, .bool co, .int .u8 ac, .int .i64 mx, afv, .slice vp sb.length vc, itv, .string ⟨pa.toArray⟩] 30)).alloc (.cells #[.string ⟨s.toArray⟩] 9)) (.cells #[.string ⟨#[]⟩, .bool false, .int .i64 0] 46)).1
    rwa [World.size_alloc, World.size_alloc] at this
  have l0 := (Array.getElem?_eq_some_iff.1 hbn).1
  have l1 := (Array.getElem?_eq_some_iff.1 hbs).1
  have l2 := (Array.getElem?_eq_some_iff.1 hbz).1
  have hA1 := hA.below hb0
  have hC : Hid (Calls Try.prog 36 #[.slice vp N vc, .func (.func 37) #[] #[.pointer (some ⟨w.heap.size + 1, 0, none⟩)]] w0 fun e w' => ∃ i : Int, e = .returned (.int .i64 i) ∧ IxAt sb (fun p => p.1 == s) i ∧ Below w0.heap.size w0 w') := Lib.hid (by
    have := ixSub_any (.slice vp sb.length vc) sb w0 hA1 (by omega) 37 #[.pointer (some ⟨w.heap.size + 1, 0, none⟩)] (fun p => p.1 == s) eg (fun W e hb => sub1_any e s (w.heap.size + 1) W ((hb.block _ l1).trans hbs))
    rwa [hN] at this)
  have hcn : Hid (∀ W, Below w0.heap.size w0 W → W.cell? ⟨w.heap.size, 5, none⟩ = some (.slice vp N vc) ∧ w.heap.size < W.heap.size ∧ W.heap[w.heap.size + 2]? = some (.cells #[.string ⟨#[]⟩, .bool false, .int .i64 0] 46)) := Lib.hid fun W hb => ⟨((bat hb _ l0).1 5).trans (by rw [(obj_cells hbn).1]; simp [hN]), Nat.lt_of_lt_of_le l0 hb.size, (hb.block _ l2).trans hbz⟩
  obtain ⟨c5, lw, -⟩ := hcn.out w0 (Below.refl _ _)
  rw [hN] at hw0 ⊢
  replace hA1 := Lib.hid hA1
  replace hb0 := Lib.hid hb0
  replace hN := Lib.hid hN
  clear hbs hbn hbz l0 l1 l2 hA hl
  go_enter Try.func13, Try.ntmps13
  go_upto_if 12 with (go_at_call 36; refine hC.out.mono ?_; rintro e w1 ⟨i, rfl, hi, hb1⟩; obtain ⟨d5, lw1, hz1⟩ := hcn.out w1 hb1; obtain ⟨zc, zf, zl⟩ := obj_cells hz1; replace hz1 := Lib.hid hz1; replace hb1 := Lib.hid hb1; replace hi := Lib.hid hi)
  have hbS : ∀ u0 u1 u2, Below w.heap.size w (((w1.setCell ⟨w.heap.size + 2, 0, none⟩ u0).setCell ⟨w.heap.size + 2, 1, none⟩ u1).setCell ⟨w.heap.size + 2, 2, none⟩ u2) := fun u0 u1 u2 => (((belowT hb0.out hb1.out).setCell (by simp) u0).setCell (by simp) u1).setCell (by simp) u2
  rcases hro.out i hi.out with ⟨rfl, rfl⟩ | ⟨k, hk, rfl, hR⟩
  · clear hi hro hC hcn hA1
    replace hbS := Lib.hid hbS
    go_wp2
    refine bodyPost_ret (v := .tuple #[.agg #[.string ⟨#[]⟩, .bool false, .int .i64 0], .bool false]) (by simp [results, Try.results13, go_sem, zc, zf, zl]) rfl ⟨⟨([], false, 0), rfl, fun y h => by cases h⟩, hbS.out _ _ _⟩
  · obtain ⟨p', c', he, -, -, hat⟩ := hA1.out.below hb1.out
    obtain ⟨rfl, -, rfl⟩ := Value.slice.inj he
    obtain ⟨b, o, rfl, hb, hcc⟩ := hat (by omega)
    obtain ⟨d0, d1, d2⟩ := hcc k hk
    have hki : (k : Int) < (N : Int) := by have := hN.out; omega
    have hk0 : (0 : Int) ≤ (k : Int) := by omega
    obtain ⟨y, hy⟩ : ∃ y, sb[k]'hk = y := ⟨_, rfl⟩
    rw [hy] at d0 d1 d2 hR
    subst hR
    replace hy := Lib.hid hy
    replace hcc := Lib.hid hcc
    clear hi hro hC hcn hA1 hat he
    replace hk := Lib.hid hk
    replace hbS := Lib.hid hbS
    obtain ⟨y0, y1, y2⟩ := y
    simp only at d0 d1 d2
    go_wp2
    refine bodyPost_ret (v := .tuple #[.agg #[.string ⟨y0.toArray⟩, .bool y1, .int .i64 y2], .bool true]) (by simp [results, Try.results13, go_sem, zc, zf, zl]) rfl ⟨⟨(y0, y1, y2), rfl, fun y h => by cases h; rfl⟩, hbS.out _ _ _⟩
set_option maxHeartbeats 2000000 in
/-- who may read -/
theorem reads_any (n : Nd) (afv sbv itv : Value) (s : Tx) (w : World) (hA : AfS w afv n.af) (hS : SuS w sbv n.sb) (hl : n.af.length ≤ 1000) (hl2 : n.sb.length ≤ 1000) :
    Calls Try.prog 6 #[.agg (ndC n afv sbv itv), .string ⟨s.toArray⟩] w fun e w' => e = .returned (.bool (readsN n s)) ∧ Below w.heap.size w w' := by
  have hR : Hid (∀ W, Below w.heap.size w W → Calls Try.prog 12 #[.agg (ndC n afv sbv itv), .string ⟨s.toArray⟩] W fun e w' => e = .returned (.int .u8 (roleN n s)) ∧ Below W.heap.size W w') := Lib.hid fun W hb => role_any n afv sbv itv s W (hA.below hb) hl
  have hU : Hid (∀ W, Below w.heap.size w W → Calls Try.prog 13 #[.agg (ndC n afv sbv itv), .string ⟨s.toArray⟩] W fun e w' => (∃ x, e = .returned (.tuple #[.agg #[.string ⟨(x : Tx × Bool × Int).1.toArray⟩, .bool x.2.1, .int .i64 x.2.2], .bool (subN n s).isSome]) ∧ ∀ y, subN n s = some y → x = y) ∧ Below W.heap.size W w') := Lib.hid fun W hb => sub_any n afv sbv itv s W (hS.below hb) hl2
  have hE : readsN n s = if roleN n s = 1 then false else if 2 < roleN n s then true else (n.ac == 0 || (n.ac == 1 && (match subN n s with | some s => !s.2.1 | none => false))) := rfl
  generalize roleN n s = R at hR hE
  generalize readsN n s = B at hE ⊢
  generalize subN n s = U at hU hE
  obtain ⟨nm, co, ac, mx, af, sb, pa⟩ := n
  simp only at hE
  unfold ndC at hR hU ⊢
  simp only at hR hU ⊢
  have hB1 := Lib.hid (below1 w (.cells #[.string ⟨nm.toArray⟩, .bool co, .int .u8 ac, .int .i64 mx, afv, sbv, itv, .string ⟨pa.toArray⟩] 30))
  obtain ⟨afp, afn, afc, rfl⟩ : ∃ a n c, afv = .slice a n c := by obtain ⟨a, c, h, -⟩ := hA; exact ⟨a, _, c, h⟩
  obtain ⟨sbp, sbn, sbc, rfl⟩ : ∃ a n c, sbv = .slice a n c := by obtain ⟨a, c, h, -⟩ := hS; exact ⟨a, _, c, h⟩
  clear hA hS hl hl2
  by_cases h1 : R = 1
  · subst h1
    obtain rfl : B = false := by rw [hE, if_pos rfl]
    have e1 : ((1 : Nat) : Int) = 1 := rfl
    rw [e1] at hR
    clear hE hU e1
    go_enter Try.func6, Try.ntmps6
    go_wp2_with (go_at_call 12; refine (hR.out _ hB1.out).mono ?_; rintro e w1 ⟨rfl, hb1⟩; replace hb1 := Lib.hid hb1)
    go_ret
    exact ⟨rfl, belowT hB1.out hb1.out⟩
  · rw [if_neg h1] at hE
    by_cases h2 : 2 < R
    · obtain rfl : B = true := by rw [hE, if_pos h2]
      have i1 : ((R : Int) == 1) = false := by simpa using fun e : (R : Int) = 1 => h1 (by omega)
      have i2 : (2 : Int) < (R : Int) := by omega
      clear hE hU h1 h2
      go_enter Try.func6, Try.ntmps6
      go_wp2_with (go_at_call 12; refine (hR.out _ hB1.out).mono ?_; rintro e w1 ⟨rfl, hb1⟩; replace hb1 := Lib.hid hb1)
      go_ret
      exact ⟨rfl, belowT hB1.out hb1.out⟩
    · rw [if_neg h2] at hE
      have i1 : ((R : Int) == 1) = false := by simpa using fun e : (R : Int) = 1 => h1 (by omega)
      have i2 : ¬ (2 : Int) < (R : Int) := by omega
      have hE2 : ∀ x : Tx × Bool × Int, (∀ y, U = some y → x = y) → B = (((ac : Int) == 0) || (((ac : Int) == 1) && (U.isSome && !x.2.1))) := fun x hx => by
        have a0 : ((ac : Int) == 0) = (ac == 0) := by rw [Bool.eq_iff_iff]; simp
        have a1 : ((ac : Int) == 1) = (ac == 1) := by rw [Bool.eq_iff_iff]; simp; omega
        rw [hE, a0, a1]
        cases U with
        | none => rfl
        | some y => rw [hx y rfl]; rfl
      replace hE2 := Lib.hid hE2
      clear hE h1 h2
      generalize ((ac : Nat) : Int) = A at hR hU hB1 hE2 ⊢
      generalize U.isSome = D at hU hE2
      go_enter Try.func6, Try.ntmps6
      go_upto_region 7 with (first
        | (go_at_call 12; refine (hR.out _ hB1.out).mono ?_; rintro e w1 ⟨rfl, hb1⟩; obtain ⟨lc, lf⟩ := bat hb1 w.heap.size (by simp); have ll : w.heap.size < w1.heap.size := (Nat.lt_of_lt_of_le (by simp) hb1.size); have hB2 := Lib.hid (belowT hB1.out hb1); replace hb1 := Lib.hid hb1)
        | (go_at_call 13; refine (hU.out _ hB2.out).mono ?_; rintro e w2 ⟨⟨x, rfl, hx⟩, hb2⟩; obtain ⟨lc2, lf2⟩ := bat hb2 w.heap.size ll; have ll2 := Nat.lt_of_lt_of_le ll hb2.size; have hB3 := Lib.hid (belowT hB2.out hb2); replace hb2 := Lib.hid hb2; replace hx := Lib.hid hx))
      obtain ⟨xj, xp, xd⟩ := x
      have hE3 := hE2.out _ hx.out
      simp only at hE3 ⊢
      clear hE2 hx hR hU
      replace hE3 := Lib.hid hE3
      cases h0 : (A == 0)
      · cases h3 : (A == 1)
        · rw [h0, h3] at hE3
          obtain rfl : B = false := hE3.out
          go_wp2
          go_ret
          exact ⟨rfl, belowA hB3.out _⟩
        · rw [h0, h3] at hE3
          cases D
          · obtain rfl : B = false := hE3.out
            go_wp2
            go_ret
            exact ⟨rfl, belowA hB3.out _⟩
          · obtain rfl : B = !xp := by rw [hE3.out]; rfl
            go_wp2
            go_ret
            exact ⟨rfl, belowA hB3.out _⟩
      · rw [h0] at hE3
        obtain rfl : B = true := hE3.out
        go_wp2
        go_ret
        exact ⟨rfl, belowA hB3.out _⟩
end Go.Proofs.Ytoijpjmkjhoiaaa
