/-
  The reference's maps: Put. Printed by wip/tools/genkv.py. Condition: the map's pairs are right (okE).
-/
import Derived.Test.YtfeiihmhdcnabaaKvRef2
import Derived.Deep.DeepCutAuto
import Derived.Deep.CutBlock
import Derived.Sort.Walk0
import Derived.Lib.Strings
namespace Go.Proofs.Ytfeiihmhdcnabaa
set_option linter.unusedVariables false
set_option linter.unusedSimpArgs false
open Go.RowKit Go.MapKept
theorem sort_at {E : Ats} (hs : sortE E) {a b : Nat} (ha : a < b) (hb : b < E.length) : (E[a]'(by omega)).1 < (E[b]'hb).1 := (List.pairwise_iff_getElem.1 hs) a b (by omega) hb ha
/-- has it been placed behind k edges? -/
def plE (E : Ats) (c : Txt) (k : Nat) : Bool := (E.take k).any fun e => !decide (e.1 < c)
def outE (E : Ats) (c p : Txt) (k : Nat) : Ats := if plE E c k then insE c p (E.take k) else E.take k
theorem take_snoc {E : Ats} {k : Nat} (h : k < E.length) : E.take (k + 1) = E.take k ++ [E[k]'h] := by rw [List.take_add_one, List.getElem?_eq_getElem h]; rfl
theorem pl_snoc {E : Ats} {c : Txt} {k : Nat} (h : k < E.length) : plE E c (k + 1) = (plE E c k || !decide ((E[k]'h).1 < c)) := by
  unfold plE
  rw [take_snoc h, List.any_append]
  simp
theorem pl_true {E : Ats} {c : Txt} {k : Nat} (h : plE E c k = true) : ∃ x ∈ E.take k, ¬ x.1 < c := by
  obtain ⟨x, hx, h2⟩ := List.any_eq_true.1 h
  exact ⟨x, hx, by simpa using h2⟩
theorem pl_false {E : Ats} {c : Txt} {k : Nat} (h : plE E c k = false) : ∀ x ∈ E.take k, x.1 < c := by
  intro x hx
  have := List.any_eq_false.1 h x hx
  simpa using this
theorem pl_after {E : Ats} {c : Txt} {k : Nat} (hs : sortE E) (hk : k < E.length) (h : plE E c k = true) : c < (E[k]'hk).1 := by
  obtain ⟨x, hx, hn⟩ := pl_true h
  obtain ⟨i, hi, rfl⟩ := List.getElem_of_mem hx
  rw [List.getElem_take] at hn
  have hik : i < k := by simp at hi; omega
  have := sort_at hs hik hk
  rcases tl_tri (E[i]'(by omega)).1 c with h | h | h
  · exact absurd h hn
  · rw [← h]; exact this
  · exact tl_trans h this
/-- placed: go on as it stands -/
theorem out_go {E : Ats} {c p : Txt} {k : Nat} (hs : sortE E) (hk : k < E.length) (h : plE E c k = true) : plE E c (k + 1) = true ∧ (E[k]'hk).1 ≠ c ∧ outE E c p (k + 1) = outE E c p k ++ [E[k]'hk] := by
  have h1 : plE E c (k + 1) = true := by rw [pl_snoc hk, h]; rfl
  refine ⟨h1, fun e => tl_irrefl c (by have := pl_after hs hk h; rwa [e] at this), ?_⟩
  unfold outE
  rw [h1, h, if_pos rfl, if_pos rfl, take_snoc hk]
  exact ins_some (pl_true h)
/-- not placed, and before -/
theorem out_before {E : Ats} {c p : Txt} {k : Nat} (hk : k < E.length) (h : plE E c k = false) (hlt : (E[k]'hk).1 < c) : plE E c (k + 1) = false ∧ (E[k]'hk).1 ≠ c ∧ outE E c p (k + 1) = outE E c p k ++ [E[k]'hk] := by
  have h1 : plE E c (k + 1) = false := by rw [pl_snoc hk, h, decide_eq_true hlt]; rfl
  refine ⟨h1, fun e => tl_irrefl c (by rwa [e] at hlt), ?_⟩
  unfold outE
  rw [h1, h, if_neg (by simp), if_neg (by simp), take_snoc hk]
/-- not placed, and here -/
theorem out_here {E : Ats} {c p : Txt} {k : Nat} (hk : k < E.length) (h : plE E c k = false) (hlt : ¬ (E[k]'hk).1 < c) : plE E c (k + 1) = true ∧ outE E c p (k + 1) = outE E c p k ++ ((c, p) :: if (E[k]'hk).1 = c then [] else [E[k]'hk]) := by
  have h1 : plE E c (k + 1) = true := by rw [pl_snoc hk, h, decide_eq_false hlt]; rfl
  refine ⟨h1, ?_⟩
  unfold outE
  rw [h1, h, if_pos rfl, if_neg (by simp), take_snoc hk, ins_all (pl_false h)]
  congr 1
  show (if c < (E[k]'hk).1 then _ else if c = (E[k]'hk).1 then _ else _) = _
  by_cases he : (E[k]'hk).1 = c
  · rw [if_pos he, if_neg (by rw [he]; exact tl_irrefl c), if_pos he.symm]
  · rw [if_neg he, if_pos (by
      rcases tl_tri (E[k]'hk).1 c with h | h | h
      · exact absurd h hlt
      · exact absurd h he
      · exact h)]
theorem out_end {E : Ats} {c p : Txt} : insE c p E = if plE E c E.length then outE E c p E.length else outE E c p E.length ++ [(c, p)] := by
  unfold outE
  rw [List.take_length]
  cases h : plE E c E.length with
  | true => rw [if_pos rfl, if_pos rfl]
  | false =>
    rw [if_neg (by simp), if_neg (by simp)]
    have h2 := pl_false h
    rw [List.take_length] at h2
    have := ins_all (p := p) (R := []) h2
    rw [List.append_nil] at this
    rw [this]; rfl
theorem out_len {E : Ats} {c p : Txt} {k : Nat} (hs : sortE E) (hk : k ≤ E.length) : (outE E c p k).length ≤ k + 1 := by
  unfold outE
  have hst : sortE (E.take k) := List.Pairwise.sublist (List.take_sublist _ _) hs
  have hl : (E.take k).length ≤ k := by rw [List.length_take]; omega
  split
  · rw [ins_len c p hst]; split <;> omega
  · omega
theorem par_place {c q : Txt} : ∀ {E : Ats}, parE E c = some q → ∃ k, ∃ hk : k < E.length, (E[k]'hk).1 = c
  | [], h => by cases h
  | e :: r, h => by
    unfold parE at h
    split at h
    · rename_i he
      exact ⟨0, by simp, he⟩
    · obtain ⟨k, hk, hkk⟩ := par_place h
      exact ⟨k + 1, by simpa using hk, by simpa using hkk⟩
theorem sort_inj {E : Ats} (hs : sortE E) {i j : Nat} (hi : i < E.length) (hj : j < E.length) (h : (E[i]'hi).1 = (E[j]'hj).1) : i = j := by
  rcases Nat.lt_trichotomy i j with h1 | h1 | h1
  · have := sort_at hs h1 hj
    rw [h] at this
    exact absurd this (tl_irrefl _)
  · exact h1
  · have := sort_at hs h1 hi
    rw [h] at this
    exact absurd this (tl_irrefl _)
theorem lss_run (a b : Txt) (W : World) : (binOp .lss 9 (.string ⟨a.toArray⟩) (.string ⟨b.toArray⟩)).run Try.prog W = .ok (.bool (decide (a < b))) W := by
  simp [binOp, Op.stringOp, bytesLess_eq, Lib.toList_data]
theorem at_some' {g : Nat} {E : Ats} {c q : Txt} {w : World} (h : RfS w g E) (hp : parE E c = some q) : ∃ k : Nat, k < E.length ∧ Calls Try.prog 40 #[.pointer (some ⟨g, 0, none⟩), .string ⟨c.toArray⟩] w fun e w' => e = .returned (.int .i64 (k : Nat)) ∧ w = w' := by
  obtain ⟨k, hk, hkk⟩ := par_place hp
  have hd : ∀ i (hi : i < E.length), (E[i]'hi).1 = c → i = k := fun i hi e => sort_inj h.1.1 hi hk (e.trans hkk.symm)
  refine ⟨k, hk, (at_any g E c w h).mono ?_⟩
  rintro e w' ⟨n, he, ho, hw⟩
  rcases ho with ⟨h1, -⟩ | ⟨i, hi, rfl, h2, -⟩
  · rw [hp] at h1; cases h1
  · rw [hd i hi h2] at he
    exact ⟨he, hw⟩
set_option maxRecDepth 100000 in
set_option maxHeartbeats 8000000 in
theorem refPut_rest (g : Nat) (E : Ats) (c v : Txt) (w : World) (n : Int) (h : RfS w g E) (h1i : ¬ (c.length : Int) < 1) (h2i : ¬ (64 : Int) < (c.length : Int)) (h3i : ¬ (4096 : Int) < (v.length : Int))
    (hat : Calls Try.prog 40 #[.pointer (some ⟨g, 0, none⟩), .string ⟨c.toArray⟩] w fun e w' => e = .returned (.int .i64 n) ∧ w = w') (hn0 : n < 0 → ¬ (128 : Int) ≤ (E.length : Int))
    (hwo : Calls Try.prog 45 #[.pointer (some ⟨g, 0, none⟩), .string ⟨c.toArray⟩] w fun e w' => ∃ sv, e = .returned sv ∧ AtS w' sv (remE E c) ∧ Below w.heap.size w w')
    (hs : sortE (remE E c)) (hnc : ∀ e ∈ remE E c, e.1 ≠ c) (hll : (remE E c).length ≤ 128) (hok2 : okE (insE c v (remE E c))) :
    Calls Try.prog 37 #[.pointer (some ⟨g, 0, none⟩), .string ⟨c.toArray⟩, .string ⟨v.toArray⟩] w (RfOut g (insE c v (remE E c), 0) w) := by
  obtain ⟨i0, hi, hz0, hz1, hz2⟩ := info_parts infoP
  obtain ⟨hok, ptr, cap, hg, hA⟩ := h
  obtain ⟨-, -, hgs⟩ := obj_cells hg
  have hset := fun (W : World) (hb : Below w.heap.size w W) (sv : Value) (hS : AtS W sv (insE c v (remE E c))) => rfs_set hg hb sv hS hok2
  have hfr := fun (W : World) (hb : Below w.heap.size w W) => ((bat hb g hgs).2 0).trans ((obj_cells hg).2.1 0)
  have hcl : ∀ (W : World) (hb : Below w.heap.size w W), W.cell? ⟨g, 0, none⟩ = some (.slice ptr E.length cap) := fun W hb => ((bat hb g hgs).1 0).trans (by rw [(obj_cells hg).1]; rfl)
  have hcell0 := hcl w (Below.refl _ _)
  generalize remE E c = L at hwo hs hnc hll hset ⊢
  obtain ⟨N, hN⟩ : ∃ N, L.length = N := ⟨_, rfl⟩
  rw [hN] at hll
  replace hN := Lib.hid hN
  replace hset := Lib.hid hset
  replace hfr := Lib.hid hfr
  replace hcl := Lib.hid hcl
  replace hat := Lib.hid hat
  replace hwo := Lib.hid hwo
  replace hs := Lib.hid hs
  replace hnc := Lib.hid hnc
  clear hg hA hok hok2
  have hgl : Hid (g < w.heap.size) := Lib.hid hgs
  go_enter Try.func37, Try.ntmps37
  go_upto_block 0 with (fail)
  go_cut [28] (fun _ W => W = w)
  case first =>
    by_cases hn : n < 0
    · have h5i := hn0 hn
      go_wp2_with (go_at_call 40; refine hat.out.mono ?_; rintro e w0 ⟨rfl, rfl⟩)
      go_meet
      rfl
    · clear hn0
      go_wp2_with (go_at_call 40; refine hat.out.mono ?_; rintro e w0 ⟨rfl, rfl⟩)
      go_meet
      rfl
  case rest =>
    obtain rfl := hcut
    clear hn0 hat hcell0
    go_wp2_with (go_at_call 45; refine hwo.out.mono ?_; rintro e w1 ⟨sv, rfl, hA1, hb1⟩; obtain ⟨lp, lc, rfl⟩ : ∃ a c', sv = .slice a N c' := (by obtain ⟨a, c, h, -⟩ := hA1; exact ⟨a, c, hN.out ▸ h⟩); replace hA1 := Lib.hid hA1; replace hb1 := Lib.hid hb1)
    obtain ⟨p', c', he', -, -, hat⟩ := hA1.out
    obtain ⟨rfl, -, rfl⟩ := Value.slice.inj he'
    clear he' hA1 hwo
    replace hat := Lib.hid hat
    go_loopw [8, 9, 10] (fun s8 s9 s10 wr => ∃ k : Nat, k ≤ N ∧ s10 = .int .i64 k ∧ s9 = .bool (plE L c k) ∧ Hid (wr.ownsRow w1.heap.size 39 2 s8 (outE L c v k).length (atCells (outE L c v k))) ∧ Hid (Below w1.heap.size w1 wr)) (fun _ _ s10 _ => N - (intOf s10).toNat)
    case atStart => exact ⟨0, Nat.zero_le _, rfl, rfl, Lib.hid (World.ownsRow_nil _ _ _ _), Lib.hid (Below.refl _ _)⟩
    case round =>
      obtain ⟨k, hk, rfl, rfl, hO, hB⟩ := hrel
      obtain ⟨na, nc, rfl⟩ := owns_shp hO.out
      have hsz := Lib.hid hB.out.size
      have hfl := Lib.hid (out_len (c := c) (p := v) hs.out (by rw [hN.out]; exact hk))
      by_cases hlt : k < N
      · have hk3 : k < L.length := by have := hN.out; omega
        obtain ⟨b, o, rfl, hb, hcc⟩ := hat.out (by omega)
        have hcell := Lib.hid (hcc k hk3)
        obtain ⟨d0, d1⟩ := hcc k hk3
        have kc := fun (j : Nat) => hB.out.cell (p := ⟨b, j, none⟩) hb
        replace d0 := (kc _).trans d0
        replace d1 := (kc _).trans d1
        have hgo := out_go (c := c) (p := v) hs.out hk3
        have hbf := out_before (c := c) (p := v) hk3
        have hhr := out_here (c := c) (p := v) hk3
        have hne := hnc.out _ (List.getElem_mem hk3)
        clear hcc kc
        generalize hE : L[k] = x at d0 d1 hgo hbf hhr hcell hne
        obtain ⟨ch, pa⟩ := x
        simp only at d0 d1 hgo hbf hhr hcell hne
        replace hE := Lib.hid hE
        have hki : (k : Int) < (N : Int) := by omega
        have hk0 : (0 : Int) ≤ (k : Int) := by omega
        have hbw : b < wr.heap.size := Nat.lt_of_lt_of_le hb hsz.out
        have hls := lss_run c ch
        cases hpl : plE L c k with
        | true =>
          obtain ⟨n1, -, n3⟩ := hgo hpl
          clear hgo hbf hhr hls
          replace n1 := Lib.hid n1
          replace n3 := Lib.hid n3
          replace hpl := Lib.hid hpl
          replace hne := Lib.hid hne
          go_wp2_with (at_builtin; refine wpList_append_own _ rfl _ _ 36 rfl w1.heap.size 39 i0 _ 2 32 underP hi hz0 hz1 hz2 rfl (by decide) _ _ _ rfl (hO.out.alloc _) ⟨wr.heap.size, 0, none⟩ 1 1 (vC ch pa) rfl rfl (fun j u h => by rw [Addr.add_lit]; exact vC_cells (heap_alloc _ _).1 j u h) (vC_one _ _) (by have := hfl.out; unfold maxLen; omega) (by have := hfl.out; omega) (by have := hsz.out; simp only [World.size_alloc]; omega) ?_
                       intro v5 w5 hO5 hg5 _
                       have hb5 := (belowA hB.out (.cells #[.string ⟨ch.toArray⟩, .string ⟨pa.toArray⟩] 39)).grown hg5 (by have := hsz.out; simp only [World.size_alloc]; omega) (fun k hk => ((hO.out.alloc (.cells #[.string ⟨ch.toArray⟩, .string ⟨pa.toArray⟩] 39)).lt k hk).1)
                       obtain ⟨m15, m25, rfl⟩ := owns_shp hO5
                       have hsz5 := Lib.hid hb5.size
                       replace hO5 := Lib.hid hO5
                       replace hb5 := Lib.hid hb5)
          go_roundw
          case rel =>
            refine ⟨k + 1, by omega, by simp, by rw [n1.out], ?_, hb5⟩
            rw [n3.out, List.length_append, atC_app]
            exact hO5
          case measure => simp [intOf]; omega
        | false =>
          by_cases hlt2 : c < ch
          · have hnl : ¬ ch < c := fun h => tl_irrefl _ (tl_trans h hlt2)
            obtain ⟨n1, n3⟩ := hhr hpl hnl
            rw [if_neg hne] at n3
            rw [decide_eq_true hlt2] at hls
            have hld : Op.bytesLess c ch = true := by rw [bytesLess_eq]; exact decide_eq_true hlt2
            clear hgo hbf hhr hnl
            replace n1 := Lib.hid n1
            replace n3 := Lib.hid n3
            replace hpl := Lib.hid hpl
            replace hlt2 := Lib.hid hlt2
            replace hne := Lib.hid hne
            go_wp2_with (first
              | (have m0 := hb5; at_builtin; refine wpList_append_own _ rfl _ _ 36 rfl w1.heap.size 39 i0 _ 2 32 underP hi hz0 hz1 hz2 rfl (by decide) _ _ _ rfl (hO5.out.alloc _) ⟨w5.heap.size, 0, none⟩ 1 1 (vC ch pa) rfl rfl (fun j u h => by rw [Addr.add_lit]; exact vC_cells (heap_alloc _ _).1 j u h) (vC_one _ _) (by have := hfl.out; unfold maxLen; omega) (by have := hfl.out; omega) (by have := hsz5.out; simp only [World.size_alloc]; omega) ?_
                 intro v6 w6 hO6 hg6 _
                 have hb6 := (belowA hb5.out (.cells #[.string ⟨ch.toArray⟩, .string ⟨pa.toArray⟩] 39)).grown hg6 (by have := hsz5.out; simp only [World.size_alloc]; omega) (fun k hk => ((hO5.out.alloc (.cells #[.string ⟨ch.toArray⟩, .string ⟨pa.toArray⟩] 39)).lt k hk).1)
                 obtain ⟨m16, m26, rfl⟩ := owns_shp hO6
                 have hsz6 := Lib.hid hb6.size
                 replace hO6 := Lib.hid hO6
                 replace hb6 := Lib.hid hb6)
              | (at_builtin; refine wpList_append_own _ rfl _ _ 36 rfl w1.heap.size 39 i0 _ 2 32 underP hi hz0 hz1 hz2 rfl (by decide) _ _ _ rfl (hO.out.alloc _) ⟨wr.heap.size, 0, none⟩ 1 1 (vC c v) rfl rfl (fun j u h => by rw [Addr.add_lit]; exact vC_cells (heap_alloc _ _).1 j u h) (vC_one _ _) (by have := hfl.out; unfold maxLen; omega) (by have := hfl.out; omega) (by have := hsz.out; simp only [World.size_alloc]; omega) ?_
                 intro v5 w5 hO5 hg5 _
                 have hb5 := (belowA hB.out (.cells #[.string ⟨c.toArray⟩, .string ⟨v.toArray⟩] 39)).grown hg5 (by have := hsz.out; simp only [World.size_alloc]; omega) (fun k hk => ((hO.out.alloc (.cells #[.string ⟨c.toArray⟩, .string ⟨v.toArray⟩] 39)).lt k hk).1)
                 obtain ⟨m15, m25, rfl⟩ := owns_shp hO5
                 have f0 := (hb5.cell (p := ⟨b, o + k * 2, none⟩) hb).trans hcell.out.1
                 have f1 := (hb5.cell (p := ⟨b, o + k * 2 + 1, none⟩) hb).trans hcell.out.2
                 have hbw5 : b < w5.heap.size := Nat.lt_of_lt_of_le hb hb5.size
                 have hsz5 := Lib.hid hb5.size
                 replace hO5 := Lib.hid hO5
                 replace hb5 := Lib.hid hb5))
            go_roundw
            case rel =>
              refine ⟨k + 1, by omega, by simp, by rw [n1.out], ?_, hb6⟩
              rw [n3.out, List.length_append, atC_app]
              have := hO6.out
              rw [List.append_assoc] at this
              exact Lib.hid this
            case measure => simp [intOf]; omega
          · have hnl : ch < c := by
              rcases tl_tri ch c with h | h | h
              · exact h
              · exact absurd h hne
              · exact absurd h hlt2
            obtain ⟨n1, -, n3⟩ := hbf hpl hnl
            rw [decide_eq_false hlt2] at hls
            have hld : Op.bytesLess c ch = false := by rw [bytesLess_eq]; exact decide_eq_false hlt2
            clear hgo hbf hhr hnl
            replace n1 := Lib.hid n1
            replace n3 := Lib.hid n3
            replace hpl := Lib.hid hpl
            replace hlt2 := Lib.hid hlt2
            replace hne := Lib.hid hne
            go_wp2_with (at_builtin; refine wpList_append_own _ rfl _ _ 36 rfl w1.heap.size 39 i0 _ 2 32 underP hi hz0 hz1 hz2 rfl (by decide) _ _ _ rfl (hO.out.alloc _) ⟨wr.heap.size, 0, none⟩ 1 1 (vC ch pa) rfl rfl (fun j u h => by rw [Addr.add_lit]; exact vC_cells (heap_alloc _ _).1 j u h) (vC_one _ _) (by have := hfl.out; unfold maxLen; omega) (by have := hfl.out; omega) (by have := hsz.out; simp only [World.size_alloc]; omega) ?_
                         intro v5 w5 hO5 hg5 _
                         have hb5 := (belowA hB.out (.cells #[.string ⟨ch.toArray⟩, .string ⟨pa.toArray⟩] 39)).grown hg5 (by have := hsz.out; simp only [World.size_alloc]; omega) (fun k hk => ((hO.out.alloc (.cells #[.string ⟨ch.toArray⟩, .string ⟨pa.toArray⟩] 39)).lt k hk).1)
                         obtain ⟨m15, m25, rfl⟩ := owns_shp hO5
                         have hsz5 := Lib.hid hb5.size
                         replace hO5 := Lib.hid hO5
                         replace hb5 := Lib.hid hb5)
            go_roundw
            case rel =>
              refine ⟨k + 1, by omega, by simp, by rw [n1.out], ?_, hb5⟩
              rw [n3.out, List.length_append, atC_app]
              exact hO5
            case measure => simp [intOf]; omega
      · obtain rfl : k = N := by omega
        have hki : ¬ (k : Int) < (k : Int) := by omega
        have hend := out_end (E := L) (c := c) (p := v)
        rw [hN.out] at hend
        have hbw := belowT hb1.out hB.out
        have hfg := hfr.out wr hbw
        have hcg := hcl.out wr hbw
        have hgw : g < wr.heap.size := Nat.lt_of_lt_of_le hgl.out hbw.size
        replace hbw := Lib.hid hbw
        cases hpl : plE L c k with
        | true =>
          rw [hpl, if_pos rfl] at hend
          replace hend := Lib.hid hend
          replace hpl := Lib.hid hpl
          have hX := Lib.hid (owns_pair hO.out)
          go_wp2
          go_ret
          obtain ⟨s1, s2⟩ := hset.out _ hbw.out _ (by rw [hend.out]; exact hX.out)
          exact ⟨rfl, s1, s2⟩
        | false =>
          rw [hpl, if_neg (by simp)] at hend
          replace hend := Lib.hid hend
          replace hpl := Lib.hid hpl
          go_wp2_with (at_builtin; refine wpList_append_own _ rfl _ _ 36 rfl w1.heap.size 39 i0 _ 2 32 underP hi hz0 hz1 hz2 rfl (by decide) _ _ _ rfl (hO.out.alloc _) ⟨wr.heap.size, 0, none⟩ 1 1 (vC c v) rfl rfl (fun j u h => by rw [Addr.add_lit]; exact vC_cells (heap_alloc _ _).1 j u h) (vC_one _ _) (by have := hfl.out; unfold maxLen; omega) (by have := hfl.out; omega) (by have := hsz.out; simp only [World.size_alloc]; omega) ?_
                       intro v5 w5 hO5 hg5 _
                       have hb5 := (belowA hB.out (.cells #[.string ⟨c.toArray⟩, .string ⟨v.toArray⟩] 39)).grown hg5 (by have := hsz.out; simp only [World.size_alloc]; omega) (fun k hk => ((hO.out.alloc (.cells #[.string ⟨c.toArray⟩, .string ⟨v.toArray⟩] 39)).lt k hk).1)
                       obtain ⟨m15, m25, rfl⟩ := owns_shp hO5
                       have hbx5 := belowT hb1.out hb5
                       have hfg5 := hfr.out w5 hbx5
                       have hcg5 := hcl.out w5 hbx5
                       have hgw5 : g < w5.heap.size := Nat.lt_of_lt_of_le hgl.out hbx5.size
                       have hbw5 := Lib.hid hbx5
                       clear hbx5
                       have hX := Lib.hid (owns_pair (E := outE L c v k ++ [(c, v)]) (base := w1.heap.size) (by rw [List.length_append, atC_app]; exact hO5))
                       have hsz5 := Lib.hid hb5.size
                       replace hO5 := Lib.hid hO5
                       replace hb5 := Lib.hid hb5)
          go_ret
          obtain ⟨s1, s2⟩ := hset.out _ hbw5.out _ (by rw [hend.out]; exact hX.out)
          exact ⟨rfl, s1, s2⟩
set_option maxRecDepth 100000 in
set_option maxHeartbeats 4000000 in
theorem refPut_any (g : Nat) (E : Ats) (c v : Txt) (w : World) (h : RfS w g E) (hc : c.length ≤ 140737488351232) (hv : v.length ≤ 140737488351232) :
    Calls Try.prog 37 #[.pointer (some ⟨g, 0, none⟩), .string ⟨c.toArray⟩, .string ⟨v.toArray⟩] w (RfOut g (putE E c v) w) := by
  have hbad : ∀ n : Int, putE E c v = (E, n) → RfOut g (putE E c v) w (.returned (.int .i64 n)) w := fun n hn => by rw [hn]; exact ⟨rfl, h, grown_refl _ _⟩
  by_cases h1 : c.length < 1
  · have h1' : c = [] := List.length_eq_zero_iff.1 (by omega)
    have hr := Lib.hid (hbad 2 (by unfold putE; rw [if_pos (.inl h1')]))
    have h1i : (c.length : Int) < 1 := by omega
    clear hbad h h1'
    go_enter Try.func37, Try.ntmps37
    go_wp2
    go_ret
    exact hr.out
  · have hcn : c ≠ [] := fun e => h1 (by rw [e]; decide)
    have h1i : ¬ (c.length : Int) < 1 := by omega
    by_cases h2 : 64 < c.length
    · have hr := Lib.hid (hbad 2 (by unfold putE; rw [if_pos (.inr (.inl h2))]))
      have h2i : (64 : Int) < (c.length : Int) := by omega
      clear hbad h
      replace hcn := Lib.hid hcn
      go_enter Try.func37, Try.ntmps37
      go_wp2
      go_ret
      exact hr.out
    · have h2i : ¬ (64 : Int) < (c.length : Int) := by omega
      by_cases h3 : 4096 < v.length
      · have hr := Lib.hid (hbad 2 (by unfold putE; rw [if_pos (.inr (.inr h3))]))
        have h3i : (4096 : Int) < (v.length : Int) := by omega
        clear hbad h
        replace hcn := Lib.hid hcn
        go_enter Try.func37, Try.ntmps37
        go_wp2
        go_ret
        exact hr.out
      · have h3i : ¬ (4096 : Int) < (v.length : Int) := by omega
        have hput : ¬ (c = [] ∨ 64 < c.length ∨ 4096 < v.length) := fun h => h.elim hcn (fun h => h.elim h2 h3)
        by_cases h5 : parE E c = none ∧ 128 ≤ E.length
        · have hr := Lib.hid (hbad 4 (by unfold putE; rw [if_neg hput, if_pos h5]))
          have hat := Lib.hid (at_none h h5.1)
          have h5i : (128 : Int) ≤ (E.length : Int) := by omega
          obtain ⟨hok, ptr, cap, hg, hA⟩ := h
          obtain ⟨hcell, hfz, hgs⟩ := obj_cells hg
          replace hcell := hcell 0
          simp at hcell
          clear hbad hput hg hok hA hfz h5
          replace hcn := Lib.hid hcn
          go_enter Try.func37, Try.ntmps37
          go_wp2_with (go_at_call 40; refine hat.out.mono ?_; rintro e w1 ⟨rfl, rfl⟩)
          go_ret
          exact hr.out
        · have hr : Hid (putE E c v = (insE c v (remE E c), 0)) := Lib.hid (by unfold putE; rw [if_neg hput, if_neg h5, ins_rem h.1.1])
          have hok2 := Lib.hid (ok_put h.1 c v)
          rw [hr.out] at hok2
          clear hbad hput
          replace hcn := Lib.hid hcn
          have hwo := Lib.hid (without_any g E c w h)
          have hls := Lib.hid (rem_sort h.1.1 c)
          have hnc := Lib.hid (rem_no E c)
          have hll : (remE E c).length ≤ 128 := Nat.le_trans (List.length_filter_le _ _) h.1.2.1
          -- where the key stands
          have hlt128 : parE E c = none → ¬ (128 : Int) ≤ (E.length : Int) := fun hp h' => h5 ⟨hp, by omega⟩
          have hgo : ∀ (n : Int) (X : Calls Try.prog 40 #[.pointer (some ⟨g, 0, none⟩), .string ⟨c.toArray⟩] w fun e w' => e = .returned (.int .i64 n) ∧ w = w'), (n < 0 → ¬ (128 : Int) ≤ (E.length : Int)) → Calls Try.prog 37 #[.pointer (some ⟨g, 0, none⟩), .string ⟨c.toArray⟩, .string ⟨v.toArray⟩] w (RfOut g (insE c v (remE E c), 0) w) := by
            intro n hat hn0
            exact refPut_rest g E c v w n h h1i h2i h3i hat hn0 hwo.out hls.out hnc.out hll hok2.out
          rw [hr.out]
          cases hp : parE E c with
          | none => exact hgo (-1) (at_none h hp) (fun _ => hlt128 hp)
          | some q =>
            have := at_some h hp
            obtain ⟨k, hk, hX⟩ : ∃ k : Nat, k < E.length ∧ Calls Try.prog 40 #[.pointer (some ⟨g, 0, none⟩), .string ⟨c.toArray⟩] w fun e w' => e = .returned (.int .i64 (k : Nat)) ∧ w = w' := at_some' h hp
            exact hgo k hX (fun h' => by omega)
end Go.Proofs.Ytfeiihmhdcnabaa
