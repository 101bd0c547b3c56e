/-
  A deed on both maps. Condition: both hold the same pairs, texts within the reach.
-/
import Derived.Test.YtfeiihmhdcnabaaKvLive
namespace Go.Proofs.Ytfeiihmhdcnabaa
set_option linter.unusedVariables false
set_option linter.unusedSimpArgs false
open Go.RowKit Go.MapKept
structure Dd where
  k : Int
  c : Txt
  v : Txt
instance : Inhabited Dd := ⟨⟨0, [], []⟩⟩
def deedE (E : Ats) (x : Dd) : Ats := if x.k = 0 then (putE E x.c x.v).1 else if x.k = 1 then (dropE E x.c).1 else E
def playE (E : Ats) (l : List Dd) : Ats := l.foldl deedE E
/-- both maps -/
structure Both (n0 : Nat) (w : World) (g b gr : Nat) (E : Ats) : Prop where
  kv : KvS w g b E
  rf : RfS w gr E
  hb : n0 ≤ b
  hr : n0 ≤ gr
theorem Both.below {n0 : Nat} {w w' : World} {g b gr : Nat} {E : Ats} (h : Both n0 w g b gr E) (hb : Below w.heap.size w w') : Both n0 w' g b gr E := ⟨h.kv.below hb, h.rf.below hb, h.hb, h.hr⟩
theorem Both.apart {n0 : Nat} {w : World} {g b gr : Nat} {E F : Ats} (h : KvS w g b E) (h2 : RfS w gr F) : gr ≠ b ∧ gr ≠ g := by
  constructor
  · rintro rfl
    obtain ⟨-, -, es, cl, h3, -⟩ := h
    obtain ⟨-, p, c, h4, -⟩ := h2
    rw [h3] at h4
    cases h4
  · rintro rfl
    obtain ⟨-, h3, -⟩ := h
    obtain ⟨-, p, c, h4, -⟩ := h2
    rw [h3] at h4
    cases h4
theorem Both.lt {n0 : Nat} {w : World} {g b gr : Nat} {E : Ats} (h : Both n0 w g b gr E) : b < w.heap.size ∧ gr < w.heap.size := by
  obtain ⟨⟨-, -, es, cl, h3, -⟩, ⟨-, p, c, h4, -⟩, -, -⟩ := h
  exact ⟨(Array.getElem?_eq_some_iff.1 h3).1, (Array.getElem?_eq_some_iff.1 h4).1⟩
/-- one call on each -/
theorem Both.two {n0 : Nat} {w w1 w2 : World} {g b gr : Nat} {E E1 : Ats} (h : Both n0 w g b gr E) (hn : n0 ≤ w.heap.size) (h1 : KvS w1 g b E1) (g1 : w.grownBy w1 (some b)) (h2 : RfS w2 gr E1) (g2 : w1.grownBy w2 (some gr)) : Both n0 w2 g b gr E1 ∧ Below n0 w w2 := by
  obtain ⟨a1, a2⟩ := Both.apart (n0 := n0) h.kv h.rf
  refine ⟨⟨h1.keep g2 (fun e => a1 (Option.some.inj e).symm) (fun e => a2 (Option.some.inj e).symm), h2, h.hb, h.hr⟩, ?_⟩
  exact ((Below.refl n0 w).grown g1 hn (fun k e => by cases e; exact h.hb)).grown g2 (Nat.le_trans hn g1.size) (fun k e => by cases e; exact h.hr)
theorem Both.one {n0 : Nat} {w w1 : World} {g b gr : Nat} {E : Ats} (h : Both n0 w g b gr E) (g1 : w.grownBy w1 (some b)) : RfS w1 gr E :=
  h.rf.but g1 (Both.apart (n0 := n0) h.kv h.rf).1 h.kv.no_str
theorem cells_but {w w1 : World} {b B : Nat} {k1 k2 : Value} (h : w.cell? ⟨B, 1, none⟩ = some k1 ∧ w.cell? ⟨B, 2, none⟩ = some k2) (g1 : w.grownBy w1 (some b)) (hB : B < w.heap.size) (hne : B ≠ b) : w1.cell? ⟨B, 1, none⟩ = some k1 ∧ w1.cell? ⟨B, 2, none⟩ = some k2 := by
  have hbl := g1.block B hB (fun e => hne (Option.some.inj e))
  exact ⟨(World.cell?_of_block (w := w) hbl).trans h.1, (World.cell?_of_block (w := w) hbl).trans h.2⟩
theorem deed_cells (w : World) (a b c : Value) : ((w.alloc (.cells #[a, b, c] 53)).drew).cell? ⟨w.heap.size, 1, none⟩ = some b ∧ ((w.alloc (.cells #[a, b, c] 53)).drew).cell? ⟨w.heap.size, 2, none⟩ = some c := by
  have h := al_newK w (.cells #[a, b, c] 53)
  exact ⟨(obj_cells h).1 1, (obj_cells h).1 2⟩
set_option maxHeartbeats 4000000 in
theorem do_any (n0 g b gr : Nat) (E : Ats) (x : Dd) (w : World) (h : Both n0 w g b gr E) (hn : n0 ≤ w.heap.size) (hc : x.c.length ≤ 140737488351232) (hv : x.v.length ≤ 140737488351232) :
    Calls Try.prog 26 #[.pointer (some ⟨g, 0, none⟩), .pointer (some ⟨gr, 0, none⟩), .agg #[.int .i64 x.k, .string ⟨x.c.toArray⟩, .string ⟨x.v.toArray⟩]] w fun e w' => e = .returned (.bool true) ∧ Both n0 w' g b gr (deedE E x) ∧ Below n0 w w' := by
  obtain ⟨k, c, v⟩ := x
  simp only at hc hv ⊢
  by_cases h0 : k = 0
  · subst h0
    have hd : deedE E ⟨0, c, v⟩ = (putE E c v).1 := rfl
    have hP := fun W (h : KvS W g b E) => put_any g b E c v W h hc hv
    have hP2 := fun W (h : RfS W gr E) => refPut_any gr E c v W h hc hv
    rw [hd]
    generalize putE E c v = pr at hP hP2
    obtain ⟨E1, n⟩ := pr
    clear hd hc hv
    have hb1 := below1 w (.cells #[.int .i64 0, .string ⟨c.toArray⟩, .string ⟨v.toArray⟩] 53)
    have h1 := h.below hb1.drew
    have hc1 := deed_cells w (.int .i64 0) (.string ⟨c.toArray⟩) (.string ⟨v.toArray⟩)
    have hlt := h.lt
    have hs1 : w.heap.size < (w.alloc (.cells #[.int .i64 0, .string ⟨c.toArray⟩, .string ⟨v.toArray⟩] 53)).drew.heap.size := by simp
    replace h := Lib.hid h
    replace hb1 := Lib.hid hb1.drew
    go_enter Try.func26, Try.ntmps26
    go_wp2_with fail
    refine wp_region_chain [5, 11, 12, 13] true (by kernel_rfl) (by kernel_rfl) rfl (by kernel_rfl) (fun W' => W'.cell? ⟨w.heap.size, 1, none⟩ = some (.string ⟨c.toArray⟩) ∧ W'.cell? ⟨w.heap.size, 2, none⟩ = some (.string ⟨v.toArray⟩)) ?_
    simp only [List.toList_toArray]
    repeat (first
      | (apply FloC.skip; · rfl)
      | (apply FloC.val; · rfl
         · (intro Wx _; rfl)
         · rfl
         · (rintro Wx ⟨c0, c1⟩; go_simp; with_reducible rfl)
         simp only [Act.put, List.setIfInBounds_toArray, List.set_cons_zero, List.set_cons_succ]))
    refine FloC.nil ?_
    refine ChainRun.step hc1 rfl ?_
    generalize (w.alloc (.cells #[.int .i64 0, .string ⟨c.toArray⟩, .string ⟨v.toArray⟩] 53)).drew = V at h1 hc1 hs1 hb1 ⊢
    gi_wp2_with (refine ⟨trivial, rfl, callsIn_wide.2 ?_⟩; go_at_call 13; refine (hP _ h1.kv).mono ?_; rintro e w1 ⟨rfl, hK1, hg1⟩)
    have hc2 := cells_but hc1 hg1 hs1 (by omega)
    have hr1 := h1.one hg1
    refine ChainRun.step hc2 rfl ?_
    gi_wp2_with (refine ⟨trivial, rfl, callsIn_wide.2 ?_⟩; go_at_call 37; refine (hP2 _ hr1).mono ?_; rintro e w2 ⟨rfl, hR2, hg2⟩)
    have hs2 := hg1.size
    have hc3 := cells_but hc2 hg2 (by omega) (by omega)
    have h2 := h1.two (Nat.le_trans hn hb1.out.size) hK1 hg1 hR2 hg2
    refine ChainRun.step hc3 rfl ?_
    gi_wp2
    refine ChainRun.step hc3 rfl ?_
    gi_wp2
    refine ChainRun.last ?_
    go_wp2
    go_ret
    exact ⟨by simp, h2.1, (hb1.out.mono hn).trans h2.2⟩
  · by_cases h1 : k = 1
    · subst h1
      have hd : deedE E ⟨1, c, v⟩ = (dropE E c).1 := rfl
      have hP := fun W (h : KvS W g b E) => delete_any g b E c W h hc
      have hP2 := fun W (h : RfS W gr E) => refDelete_any gr E c W h
      rw [hd]
      generalize dropE E c = pr at hP hP2
      obtain ⟨E1, n⟩ := pr
      clear hd hc hv
      have hb1 := below1 w (.cells #[.int .i64 1, .string ⟨c.toArray⟩, .string ⟨v.toArray⟩] 53)
      have h1 := h.below hb1.drew
      have hc1 := deed_cells w (.int .i64 1) (.string ⟨c.toArray⟩) (.string ⟨v.toArray⟩)
      have hlt := h.lt
      have hs1 : w.heap.size < (w.alloc (.cells #[.int .i64 1, .string ⟨c.toArray⟩, .string ⟨v.toArray⟩] 53)).drew.heap.size := by simp
      replace h := Lib.hid h
      replace hb1 := Lib.hid hb1.drew
      go_enter Try.func26, Try.ntmps26
      go_wp2_with fail
      refine wp_region_chain [3, 7, 8, 9] true (by kernel_rfl) (by kernel_rfl) rfl (by kernel_rfl) (fun W' => W'.cell? ⟨w.heap.size, 1, none⟩ = some (.string ⟨c.toArray⟩) ∧ W'.cell? ⟨w.heap.size, 2, none⟩ = some (.string ⟨v.toArray⟩)) ?_
      simp only [List.toList_toArray]
      repeat (first
        | (apply FloC.skip; · rfl)
        | (apply FloC.val; · rfl
           · (intro Wx _; rfl)
           · rfl
           · (rintro Wx ⟨c0, c1⟩; go_simp; with_reducible rfl)
           simp only [Act.put, List.setIfInBounds_toArray, List.set_cons_zero, List.set_cons_succ]))
      refine FloC.nil ?_
      refine ChainRun.step hc1 rfl ?_
      generalize (w.alloc (.cells #[.int .i64 1, .string ⟨c.toArray⟩, .string ⟨v.toArray⟩] 53)).drew = V at h1 hc1 hs1 hb1 ⊢
      gi_wp2_with (refine ⟨trivial, rfl, callsIn_wide.2 ?_⟩; go_at_call 20; refine (hP _ h1.kv).mono ?_; rintro e w1 ⟨rfl, hK1, hg1⟩)
      have hc2 := cells_but hc1 hg1 hs1 (by omega)
      have hr1 := h1.one hg1
      refine ChainRun.step hc2 rfl ?_
      gi_wp2_with (refine ⟨trivial, rfl, callsIn_wide.2 ?_⟩; go_at_call 39; refine (hP2 _ hr1).mono ?_; rintro e w2 ⟨rfl, hR2, hg2⟩)
      have hs2 := hg1.size
      have hc3 := cells_but hc2 hg2 (by omega) (by omega)
      have h2 := h1.two (Nat.le_trans hn hb1.out.size) hK1 hg1 hR2 hg2
      refine ChainRun.step hc3 rfl ?_
      gi_wp2
      refine ChainRun.step hc3 rfl ?_
      gi_wp2
      refine ChainRun.last ?_
      go_wp2
      go_ret
      exact ⟨by simp, h2.1, (hb1.out.mono hn).trans h2.2⟩
    · have hd : deedE E ⟨k, c, v⟩ = E := by simp [deedE, h0, h1]
      rw [hd]
      have h0' : (k == 0) = false := by simpa using h0
      have h1' : (k == 1) = false := by simpa using h1
      have hb1 := below1 w (.cells #[.int .i64 k, .string ⟨c.toArray⟩, .string ⟨v.toArray⟩] 53)
      have h2 := h.below hb1
      clear hd
      replace h := Lib.hid h
      replace h0 := Lib.hid h0
      replace h1 := Lib.hid h1
      replace h2 := Lib.hid h2
      replace hb1 := Lib.hid hb1
      go_enter Try.func26, Try.ntmps26
      go_wp2_with fail
      go_ret
      exact ⟨rfl, h2.out, hb1.out.mono hn⟩
end Go.Proofs.Ytfeiihmhdcnabaa
