/-
  The reference's maps: without, Delete. Printed by wip/tools/genkv.py. Condition: the map's pairs are right (okE).
-/
import Derived.Test.YtfeiihmhdcnabaaKvRef
namespace Go.Proofs.Ytfeiihmhdcnabaa
set_option linter.unusedVariables false
set_option linter.unusedSimpArgs false
open Go.RowKit Go.MapKept
set_option maxRecDepth 100000 in
set_option maxHeartbeats 2000000 in
theorem without_any (g : Nat) (E : Ats) (c : Txt) (w : World) (h : RfS w g E) :
    Calls Try.prog 45 #[.pointer (some ⟨g, 0, none⟩), .string ⟨c.toArray⟩] w fun e w' => ∃ sv, e = .returned sv ∧ AtS w' sv (remE E c) ∧ Below w.heap.size w w' := by
  obtain ⟨i0, hi, hz0, hz1, hz2⟩ := info_parts infoP
  obtain ⟨hok, ptr, cap, hg, hA⟩ := h
  have hl := hok.2.1
  obtain ⟨hcell0, hfz, hgs⟩ := obj_cells hg
  replace hcell0 := hcell0 0
  simp at hcell0
  obtain ⟨N, hN⟩ : ∃ N, E.length = N := ⟨_, rfl⟩
  rw [hN] at hl hcell0
  rw [hN] at hA
  obtain ⟨p', c', he, -, -, hat⟩ := hA
  obtain ⟨rfl, -, rfl⟩ := Value.slice.inj he
  clear hg hok he hfz
  replace hN := Lib.hid hN
  replace hat := Lib.hid hat
  replace hcell0 := Lib.hid hcell0
  go_enter Try.func45, Try.ntmps45
  go_wp2
  go_loopw [5, 6] (fun s5 s6 wr => ∃ k : Nat, k ≤ N ∧ s6 = .int .i64 k ∧ Hid (wr.ownsRow w.heap.size 39 2 s5 (remE (E.take k) c).length (atCells (remE (E.take k) c))) ∧ Hid (Below w.heap.size w wr)) (fun _ s6 _ => N - (intOf s6).toNat)
  case atStart => exact ⟨0, Nat.zero_le _, rfl, Lib.hid (World.ownsRow_nil _ _ _ _), Lib.hid (Below.refl _ _)⟩
  case round =>
    obtain ⟨k, hk, rfl, hO, hB⟩ := hrel
    obtain ⟨na, nc, rfl⟩ := owns_shp hO.out
    have hcell := (hB.out.cell (p := ⟨g, 0, none⟩) hgs).trans hcell0.out
    have hsz := Lib.hid hB.out.size
    by_cases hlt : k < N
    · have hk3 : k < E.length := by have := hN.out; omega
      obtain ⟨b, o, rfl, hb, hcc⟩ := hat.out (by omega)
      obtain ⟨d0, d1⟩ := hcc k hk3
      have kc := fun (j : Nat) => hB.out.cell (p := ⟨b, j, none⟩) hb
      replace d0 := (kc _).trans d0
      replace d1 := (kc _).trans d1
      have hsn := rem_snoc (c := c) hk3
      have hfl := Lib.hid (rem_len E c k)
      clear hcc kc
      generalize hE : E[k] = x at d0 d1 hsn
      obtain ⟨ch, pa⟩ := x
      simp only at d0 d1 hsn
      replace hE := Lib.hid hE
      have hki : (k : Int) < (N : Int) := by omega
      have hk0 : (0 : Int) ≤ (k : Int) := by omega
      have hbw : b < wr.heap.size := Nat.lt_of_lt_of_le hb hsz.out
      have hgw : g < wr.heap.size := Nat.lt_of_lt_of_le hgs hsz.out
      by_cases hx : ch = c
      · rw [if_pos hx, List.append_nil] at hsn
        replace hsn := Lib.hid hsn
        subst hx
        go_wp2
        go_roundw
        case rel =>
          refine ⟨k + 1, by omega, by simp, ?_, hB⟩
          rw [hsn.out]
          exact hO
        case measure => simp [intOf]; omega
      · rw [if_neg hx] at hsn
        replace hsn := Lib.hid hsn
        have hxb : (ch == c) = false := by simpa using hx
        have hxb2 : (ch != c) = true := by simpa using hx
        replace hx := Lib.hid hx
        go_wp2_with (at_builtin; refine wpList_append_own _ rfl _ _ 36 rfl w.heap.size 39 i0 _ 2 32 underP hi hz0 hz1 hz2 rfl (by decide) _ _ _ rfl (hO.out.alloc _) ⟨wr.heap.size, 0, none⟩ 1 1 (vC ch pa) rfl rfl (fun j u h => by rw [Addr.add_lit]; exact vC_cells (heap_alloc _ _).1 j u h) (vC_one _ _) (by have := hfl.out; unfold maxLen; omega) (by have := hfl.out; omega) (by have := hsz.out; simp only [World.size_alloc]; omega) ?_
                     intro v5 w5 hO5 hg5 _
                     have hb5 := (belowA hB.out (.cells #[.string ⟨ch.toArray⟩, .string ⟨pa.toArray⟩] 39)).grown hg5 (by have := hsz.out; simp only [World.size_alloc]; omega) (fun k hk => ((hO.out.alloc (.cells #[.string ⟨ch.toArray⟩, .string ⟨pa.toArray⟩] 39)).lt k hk).1)
                     obtain ⟨m15, m25, rfl⟩ := owns_shp hO5
                     have hsz5 := Lib.hid hb5.size
                     replace hO5 := Lib.hid hO5
                     replace hb5 := Lib.hid hb5)
        go_roundw
        case rel =>
          refine ⟨k + 1, by omega, by simp, ?_, hb5⟩
          rw [hsn.out, List.length_append, atC_app]
          exact hO5
        case measure => simp [intOf]; omega
    · obtain rfl : k = N := by omega
      have e4 : E.take k = E := List.take_of_length_le (by have := hN.out; omega)
      rw [e4] at hO
      have hki : ¬ (k : Int) < (k : Int) := by omega
      have hX := Lib.hid (owns_pair hO.out)
      go_wp2
      go_ret
      exact ⟨_, rfl, hX.out, hB.out⟩
/-- what the reference's Put and Delete come to -/
def RfOut (g : Nat) (r : Ats × Int) (W : World) (e : Ending) (W' : World) : Prop := e = .returned (.int .i64 r.2) ∧ RfS W' g r.1 ∧ W.grownBy W' (some g)
theorem grown_none {A C : World} (h : Below A.heap.size A C) (row : Option Nat) : A.grownBy C row := ⟨h.os, h.tape, h.output, h.size, fun k hk _ => h.block k hk⟩
theorem rfs_set {w W : World} {g : Nat} {E F : Ats} {ptr : Option Addr} {cap : Nat} (hg : w.heap[g]? = some (.cells #[.slice ptr E.length cap] 71)) (hb : Below w.heap.size w W) (sv : Value) (hS : AtS W sv F) (hok : okE F) :
    RfS (W.setCell ⟨g, 0, none⟩ sv) g F ∧ w.grownBy (W.setCell ⟨g, 0, none⟩ sv) (some g) := by
  have hgs := (Array.getElem?_eq_some_iff.1 hg).1
  have hW := (hb.block g hgs).trans hg
  have hgr : W.grownBy (W.setCell ⟨g, 0, none⟩ sv) (some g) := ⟨rfl, rfl, rfl, by rw [World.size_setCell]; exact Nat.le_refl _, fun k hk hne => Below.heap_setCell _ _ _ _ (fun e => hne (by rw [e]))⟩
  have hno : ∀ o s, W.cell? ⟨g, o, none⟩ ≠ some (.string s) := fun o s => by
    rw [(obj_cells hW).1]
    cases o <;> simp
  obtain ⟨p, c, rfl, hS2⟩ : ∃ p c, sv = .slice p F.length c ∧ AtS W sv F := by obtain ⟨p, c, h, h2⟩ := hS; exact ⟨p, c, h, ⟨p, c, h, h2⟩⟩
  refine ⟨⟨hok, p, c, ?_, hS2.but hgr hno⟩, ⟨hb.os, hb.tape, hb.output, by rw [World.size_setCell]; exact hb.size, fun k hk hne => (hgr.block k (Nat.lt_of_lt_of_le hk hb.size) hne).trans (hb.block k hk)⟩⟩
  rw [obj_set hW]
  rfl
set_option maxHeartbeats 1000000 in
theorem refDelete_any (g : Nat) (E : Ats) (c : Txt) (w : World) (h : RfS w g E) :
    Calls Try.prog 39 #[.pointer (some ⟨g, 0, none⟩), .string ⟨c.toArray⟩] w (RfOut g (dropE E c) w) := by
  have hself := h
  cases hp : parE E c with
  | none =>
    have hat := Lib.hid (at_none hself hp)
    have hr : Hid (dropE E c = (E, 10)) := Lib.hid (by unfold dropE; rw [if_pos hp])
    replace hself := Lib.hid hself
    clear h
    replace hp := Lib.hid hp
    go_enter Try.func39, Try.ntmps39
    go_wp2_with (go_at_call 40; refine hat.out.mono ?_; rintro e w1 ⟨rfl, rfl⟩)
    go_ret
    rw [hr.out]
    exact ⟨rfl, hself.out, grown_refl _ _⟩
  | some q =>
    have hat := Lib.hid (at_some hself hp)
    have hwo := Lib.hid (without_any g E c w h)
    have hr : Hid (dropE E c = (remE E c, 0)) := Lib.hid (by unfold dropE; rw [if_neg (by rw [hp]; simp)])
    have hok2 := Lib.hid (ok_rem h.1 c)
    obtain ⟨hok, ptr, cap, hg, hA⟩ := h
    obtain ⟨-, -, hgs⟩ := obj_cells hg
    have hset := fun (W : World) (hb : Below w.heap.size w W) (sv : Value) (hS : AtS W sv (remE E c)) => rfs_set hg hb sv hS hok2.out
    have hfr := fun (W : World) (hb : Below w.heap.size w W) => ((bat hb g hgs).2 0).trans ((obj_cells hg).2.1 0)
    have hcl : ∀ (W : World) (hb : Below w.heap.size w W), W.cell? ⟨g, 0, none⟩ = some (.slice ptr E.length cap) := fun W hb => ((bat hb g hgs).1 0).trans (by rw [(obj_cells hg).1]; rfl)
    replace hset := Lib.hid hset
    replace hfr := Lib.hid hfr
    replace hcl := Lib.hid hcl
    clear hg hA hok hself
    replace hp := Lib.hid hp
    go_enter Try.func39, Try.ntmps39
    go_wp2_with (first
      | (go_at_call 40; refine hat.out.mono ?_; rintro e w1 ⟨k, hk3, rfl, hq, rfl⟩; have hk1 : ¬ (k : Int) < 0 := by omega)
      | (go_at_call 45; refine hwo.out.mono ?_; rintro e w2 ⟨sv, rfl, hS, hb⟩; have f0 := hfr.out w2 hb; have c0 := hcl.out w2 hb; obtain ⟨a1, n1, c1, rfl⟩ : ∃ a n c', sv = .slice a n c' := (by obtain ⟨a, c, h, -⟩ := hS; exact ⟨a, _, c, h⟩); replace hS := Lib.hid hS; replace hb := Lib.hid hb))
    go_ret
    rw [hr.out]
    obtain ⟨s1, s2⟩ := hset.out _ hb.out _ hS.out
    exact ⟨rfl, s1, s2⟩
end Go.Proofs.Ytfeiihmhdcnabaa
