/-
  Tokens of one's own (inside), by the program. Condition: at most 1000 tokens.
-/
import Derived.Test.YtpgojinfhfipeaaStWalks
import Derived.Test.YtpgojinfhfipeaaWrElem3
namespace Go.Proofs.Ytpgojinfhfipeaa
set_option linter.unusedVariables false
set_option linter.unusedSimpArgs false
open Go.RowKit Go.MapKept
theorem nilTk (n c : Nat) (w : World) : (binOp .eql 23 (.slice none n c) (.slice none 0 0)).run Try.prog w = .ok (.bool true) w := by kernel_rfl
theorem someTk (ad : Addr) (n c : Nat) (w : World) : (binOp .eql 23 (.slice (some ad) n c) (.slice none 0 0)).run Try.prog w = .ok (.bool false) w := by kernel_rfl
theorem cloneT_any (v : Value) (l : List Tk) (w : World) (h : TkS w v l) (hl : l.length ≤ 1000) :
    Calls Try.prog 48 #[v] w fun e w' => ∃ v' ps, e = .returned v' ∧ ps.map (·.1) = l ∧ (∀ p ∈ ps, AtS w p.2 p.1.as) ∧ w'.ownsRow w.heap.size 57 4 v' l.length (tkCells ps) ∧ Below w.heap.size w w' := by
  obtain ⟨i0, hi, hz0, hz1, hz2⟩ := info_parts infoT
  obtain ⟨ps, hps, hpa, hsrc⟩ := h.pairs
  have hpl : ps.length = l.length := by rw [← hps, List.length_map]
  rcases hsrc with ⟨hv, hp0⟩ | ⟨ad, c, rfl, hcell⟩
  · obtain ⟨c, rfl⟩ : ∃ c, v = .slice none 0 c := by
      rcases hv with rfl | ⟨c, rfl⟩
      · exact ⟨0, rfl⟩
      · exact ⟨c, rfl⟩
    have hn := nilTk
    have h0 : l.length = 0 := by rw [← hpl, hp0]; rfl
    replace h0 := Lib.hid h0
    go_enter Try.func48, Try.ntmps48
    go_wp2
    go_ret
    refine ⟨_, ps, rfl, hps, hpa, ?_, Below.refl _ _⟩
    rw [h0.out, hp0]
    exact ⟨rfl, .inl ⟨rfl, rfl⟩⟩
  · have hn := someTk
    have hO : (w.alloc (.cells #[] 57)).ownsRow w.heap.size 57 4 (.slice (some ⟨w.heap.size, 0, none⟩) 0 0) 0 [] := ⟨rfl, .inr ⟨w.heap.size, 0, #[], rfl, Nat.le_refl _, (heap_alloc _ _).1, Nat.le_refl _, by simp, rfl, rfl⟩⟩
    have one := tkCells_one ps (fun p hp => by obtain ⟨a, c, h, -⟩ := hpa p hp; exact ⟨a, _, c, h⟩)
    have hnews : ∀ j u, (tkCells ps)[j]? = some u → (w.alloc (.cells #[] 57)).cell? (ad.add j) = some u := by
      intro j u hj
      have h1 := hcell j u hj
      rw [World.cell?_alloc_lt _ _ _ (cell_lt h1)]
      exact h1
    replace hcell := Lib.hid hcell
    replace hpa := Lib.hid hpa
    have hp1000 : ps.length ≤ 1000 := by omega
    replace hpl := Lib.hid hpl
    go_enter Try.func48, Try.ntmps48
    go_wp2_with (at_builtin; refine wpList_append_own _ rfl _ _ 23 rfl w.heap.size 57 i0 _ 4 64 Try.underlying23 hi hz0 hz1 hz2 rfl (by decide) _ _ _ rfl hO ad ps.length c (tkCells ps) rfl (tkCells_len ps) hnews one (by unfold maxLen; omega) (by omega) (by simp) ?_; intro v' w2 hO2 hg2 _)
    go_ret
    rw [Nat.zero_add, List.nil_append] at hO2
    refine ⟨_, ps, rfl, hps, hpa.out, ?_, (below1 w _).grown hg2 (by simp) (fun k hk => by cases hk; exact Nat.le_refl _)⟩
    rw [← hpl.out]
    exact hO2
set_option maxHeartbeats 1000000 in
theorem inside_any (v : Value) (l : List Tk) (w : World) (h : TkS w v l) (hl : l.length ≤ 1000) (hat : ∀ tk ∈ l, tk.as.length * 32 ≤ 140737488351232) :
    Calls Try.prog 37 #[v] w fun e w' => ∃ v', e = .returned v' ∧ TkF w.heap.size w' v' l ∧ Below w.heap.size w w' := by
  have hcl := Lib.hid (cloneT_any v l w h hl)
  obtain ⟨vp, vc, rfl⟩ : ∃ a c, v = .slice a l.length c := by obtain ⟨a, c, h, -⟩ := h; exact ⟨a, c, h⟩
  obtain ⟨N, hN⟩ : ∃ N, l.length = N := ⟨_, rfl⟩
  replace h := Lib.hid h
  replace hat := Lib.hid hat
  rw [hN] at hcl hl ⊢
  replace hN := Lib.hid hN
  by_cases h0 : N = 0
  · subst h0
    go_enter Try.func37, Try.ntmps37
    go_wp2_with (go_at_call 48; refine hcl.out.mono ?_; rintro e w1 ⟨v', ps, rfl, hps, hpa, hO, hb⟩; obtain ⟨va, vc', rfl⟩ := owns_val hO; replace hps := Lib.hid hps; replace hpa := Lib.hid hpa; replace hO := Lib.hid hO; replace hb := Lib.hid hb)
    go_loopw [9] (fun s9 wr => s9 = .int .i64 0 ∧ wr = w1) (fun _ _ => 0)
    case atStart => exact ⟨rfl, rfl⟩
    case round =>
      obtain ⟨rfl, rfl⟩ := hrel
      go_wp2
      go_ret
      refine ⟨_, rfl, ?_, hb.out⟩
      have hp0 : ps = [] := List.length_eq_zero_iff.1 (by rw [← List.length_map (f := (·.1)), hps.out, hN.out])
      intro W hs1 hs2
      have := owns_tks (owns_keep hO.out hs2) (by rw [← List.length_map (f := (·.1)), hps.out, hN.out]) (fun p hp => by rw [hp0] at hp; cases hp)
      rw [hps.out] at this
      exact this
  · have hNp : 0 < N := by omega
    clear h0
    go_enter Try.func37, Try.ntmps37
    go_wp2_with (go_at_call 48; refine hcl.out.mono ?_; rintro e w1 ⟨v', ps0, rfl, hps, hpa, hO, hb⟩; obtain ⟨g, c4, rfl, hg, hgs⟩ := owns_head hO hNp; replace hps := Lib.hid hps; replace hpa := Lib.hid hpa; replace hO := Lib.hid hO; replace hb := Lib.hid hb)
    go_loopw [9] (fun i wr => ∃ (k : Nat) (ps : List (Tk × Value)), k ≤ N ∧ i = .int .i64 k ∧ ps.map (·.1) = l ∧ Hid (wr.ownsRow w.heap.size 57 4 (.slice (some ⟨g, 0, none⟩) N c4) N (tkCells ps)) ∧ Hid (∀ i (h : i < ps.length), AtX (fun b => b ≠ g ∧ (i < k → w.heap.size ≤ b)) wr (ps[i]'h).2 (ps[i]'h).1.as) ∧ Hid (Below w.heap.size w wr)) (fun i _ => N - (intOf i).toNat)
    case atStart =>
      refine ⟨0, ps0, Nat.zero_le _, rfl, hps.out, hO, ?_, hb⟩
      intro i hi'
      refine AtX.mono (ok := fun b => b < w.heap.size) ?_ (fun b hb => ⟨by omega, fun h => absurd h (by omega)⟩)
      exact AtX.keep (hpa.out _ (List.getElem_mem hi')).x hb.out.size (fun b h1 _ => hb.out.block b h1)
    case round =>
      obtain ⟨k, ps, hk, rfl, hpm, hO, hX, hB⟩ := hrel
      have hpl : ps.length = N := by rw [← List.length_map (f := (·.1)), hpm, hN.out]
      by_cases hlt : k < N
      · have hlt' : k < ps.length := by omega
        have hgl : g < wr.heap.size := ((hO.out.lt g rfl).2)
        have hxk := hX.out k hlt'
        have hbd : ps[k].1.as.length * 32 ≤ 140737488351232 := by
          refine hat.out ps[k].1 ?_
          rw [← hpm]
          exact List.mem_map.2 ⟨ps[k], List.getElem_mem hlt', rfl⟩
        have c2k : wr.cell? ⟨g, k * 4 + 2, none⟩ = some ps[k].2 := by
          have := World.ownsRow.cells hO.out (g := g) rfl (k * 4 + 2) ps[k].2 (by rw [tkCells_get ps k hlt' 2 (by omega)]; rfl)
          rwa [Addr.add_lit, Nat.zero_add] at this
        have f2k := owns_frozen hO.out (k * 4 + 2)
        have hset := tkCells_set ps k hlt'
        obtain ⟨pv, hpv⟩ : ∃ z, ps[k].2 = z := ⟨_, rfl⟩
        rw [hpv] at hxk c2k
        obtain ⟨pp, pc, hsh⟩ : ∃ a c, pv = .slice a ps[k].1.as.length c := by obtain ⟨a, c, h, -⟩ := hxk; exact ⟨a, c, h⟩
        subst hsh
        have hcl := clone_any _ _ _ hxk.at hbd
        go_wp2_with (go_at_call 47; refine hcl.mono ?_; rintro e w5 ⟨sv', rfl, hX5, hb5⟩; have c5 := ((bat hb5 g hgl).1 (k * 4 + 2)).trans c2k; have f5 := ((bat hb5 g hgl).2 (k * 4 + 2)).trans f2k; obtain ⟨sp, sc, hsv⟩ : ∃ a c, sv' = .slice a ps[k].1.as.length c := by obtain ⟨a, c, h, -⟩ := hX5; exact ⟨a, c, h⟩
                     subst hsv)
        go_roundw
        case rel =>
          have hO6 := owns_set (j := k * 4 + 2) (.slice sp ps[k].1.as.length sc) (owns_keep2 hO.out (fun b hb => hb5.block b hb)) (by omega)
          rw [← hset] at hO6
          have hother : ∀ b, b ≠ g → (w5.setCell ⟨g, k * 4 + 2, none⟩ (.slice sp ps[k].1.as.length sc)).heap[b]? = w5.heap[b]? := fun b hb => Below.heap_setCell _ _ _ _ hb
          have hsz6 : (w5.setCell ⟨g, k * 4 + 2, none⟩ (.slice sp ps[k].1.as.length sc)).heap.size = w5.heap.size := by simp [World.setCell]
          refine ⟨k + 1, ps.set k (ps[k].1, .slice sp ps[k].1.as.length sc), by omega, by go_num, ?_, hO6, ?_, (belowT hB hb5).setCell (p := ⟨g, k * 4 + 2, none⟩) hg _⟩
          · rw [← hpm, List.map_set]
            apply List.ext_getElem
            · simp
            · intro i h1 h2
              rw [List.getElem_set]
              split
              · rename_i e; subst e; simp
              · rfl
          · intro i hi'
            have hi2 : i < ps.length := by simpa using hi'
            have hsw := hB.out.size
            by_cases e : i = k
            · subst e
              rw [List.getElem_set_self]
              refine AtX.keep (AtX.mono hX5 (fun b hb => ⟨by omega, fun _ => by omega⟩)) (by rw [hsz6]; exact Nat.le_refl _) (fun b hb hbg => hother b hbg.1)
            · rw [List.getElem_set_ne (fun h => e h.symm)]
              refine AtX.keep (AtX.mono (hX.out i hi2) (fun b hb => ⟨hb.1, fun h => hb.2 (by omega)⟩)) (by rw [hsz6]; exact hb5.size) (fun b hb hbg => (hother b hbg.1).trans (hb5.block b hb))
        case measure => simp [intOf]; omega
      · have hkN : k = N := by omega
        go_wp2
        go_ret
        refine ⟨_, rfl, ?_, hB⟩
        intro W hs1 hs2
        rw [← hpm]
        refine owns_tks (owns_keep hO.out hs2) hpl.symm (fun p hp => ?_)
        obtain ⟨i, hi', rfl⟩ := List.getElem_of_mem hp
        exact (AtX.keep (hX.out i hi') hs1 (fun b hb hbg => hs2 b (hbg.2 (by omega)) hb)).at
end Go.Proofs.Ytpgojinfhfipeaa
