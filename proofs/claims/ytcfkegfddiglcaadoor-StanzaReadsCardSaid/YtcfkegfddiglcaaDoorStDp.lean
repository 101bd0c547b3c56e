/-
  A stanza's tokens, or the error, by the program. Condition: no text beyond the reach, at most 1000 tokens.
-/
import Derived.Test.YtcfkegfddiglcaaDoorStRight
import Derived.Test.YtcfkegfddiglcaaDoorStWalks
import Derived.Test.YtcfkegfddiglcaaDoorWrElem3
namespace Go.Proofs.YtcfkegfddiglcaaDoor
set_option linter.unusedVariables false
set_option linter.unusedSimpArgs false
open Go.RowKit Go.MapKept
def errE (b : Bool) : Int := if b then 0 else 3
def encL (z : Sz) : List Tk := if rightZ z then tokensZ z else []
set_option maxHeartbeats 1000000 in
theorem encode_any (z : Sz) (sv : Value) (w : World) (hT : TkS w sv z.pl) (hs : z.small) :
    Calls Tryd.prog 16 #[szV z sv] w fun e w' => ∃ v, e = .returned (.tuple #[v, .int .i64 (errE (rightZ z))]) ∧ TkS w' v (encL z) ∧ Below w.heap.size w w' := by
  obtain ⟨svp, svc, rfl⟩ : ∃ a c, sv = .slice a z.pl.length c := by obtain ⟨a, c, h, -⟩ := hT; exact ⟨a, c, h⟩
  have hR : Hid (∀ W, Below w.heap.size w W → Calls Tryd.prog 11 #[szV z (.slice svp z.pl.length svc)] W fun e w' => e = .returned (.bool (rightZ z)) ∧ Below W.heap.size W w') := Lib.hid fun W hb => right_any6 z _ W (hT.below hb) hs
  have hto : Hid (∀ W, Below w.heap.size w W → Calls Tryd.prog 27 #[szV z (.slice svp z.pl.length svc)] W fun e w' => ∃ v, e = .returned v ∧ TkS w' v (tokensZ z) ∧ Below W.heap.size W w') := Lib.hid fun W hb => tokens_any z _ W (hT.below hb) hs.2.1 (fun tk ht => (hs.2.2 tk ht).2)
  replace hT := Lib.hid hT
  replace hs := Lib.hid hs
  cases hr : rightZ z
  · have e1 : encL z = [] := by unfold encL; rw [hr]; rfl
    rw [hr] at hR
    replace hr := Lib.hid hr
    replace e1 := Lib.hid e1
    unfold szV at hR hto ⊢
    obtain ⟨k, ty, fr, tt, id, pl⟩ := z
    simp only at hR hto ⊢
    go_enter Tryd.func16, Tryd.ntmps16
    go_wp2_with (go_at_call 11; refine (hR.out _ (below1 _ _)).mono ?_; rintro e w1 ⟨rfl, hb⟩; replace hb := Lib.hid hb)
    go_ret2
    exact ⟨_, rfl, by rw [e1.out]; exact tk_nil _ 0 (Nat.zero_le _), below1t hb.out⟩
  · have e1 : encL z = tokensZ z := by unfold encL; rw [hr]; rfl
    rw [hr] at hR
    replace hr := Lib.hid hr
    replace e1 := Lib.hid e1
    unfold szV at hR hto ⊢
    obtain ⟨k, ty, fr, tt, id, pl⟩ := z
    simp only at hR hto ⊢
    go_enter Tryd.func16, Tryd.ntmps16
    go_wp2_with (first
      | (go_at_call 11; refine (hR.out _ (below1 _ _)).mono ?_; rintro e w1 ⟨rfl, hb⟩; obtain ⟨hc, -⟩ := bat hb w.heap.size (by simp); replace hb := Lib.hid hb)
      | (go_at_call 27; refine (hto.out _ (below1t hb.out)).mono ?_; rintro e w2 ⟨v, rfl, hv, hb2⟩; replace hv := Lib.hid hv; replace hb2 := Lib.hid hb2))
    go_ret2
    exact ⟨_, rfl, by rw [e1.out]; exact hv.out, belowT (below1t hb.out) hb2.out⟩
end Go.Proofs.YtcfkegfddiglcaaDoor
/-
  Tokens of one's own (inside), by the program. Condition: at most 1000 tokens.
-/
namespace Go.Proofs.YtcfkegfddiglcaaDoor
set_option linter.unusedVariables false
set_option linter.unusedSimpArgs false
open Go.RowKit Go.MapKept
theorem nilTk (n c : Nat) (w : World) : (binOp .eql 22 (.slice none n c) (.slice none 0 0)).run Tryd.prog w = .ok (.bool true) w := by kernel_rfl
theorem someTk (ad : Addr) (n c : Nat) (w : World) : (binOp .eql 22 (.slice (some ad) n c) (.slice none 0 0)).run Tryd.prog w = .ok (.bool false) w := by kernel_rfl
theorem cloneT_any (v : Value) (l : List Tk) (w : World) (h : TkS w v l) (hl : l.length ≤ 1000) :
    Calls Tryd.prog 22 #[v] w fun e w' => ∃ v' ps, e = .returned v' ∧ ps.map (·.1) = l ∧ (∀ p ∈ ps, AtS w p.2 p.1.as) ∧ w'.ownsRow w.heap.size 37 4 v' l.length (tkCells ps) ∧ Below w.heap.size w w' := by
  obtain ⟨i0, hi, hz0, hz1, hz2⟩ := info_parts infoT
  obtain ⟨ps, hps, hpa, hsrc⟩ := h.pairs
  have hpl : ps.length = l.length := by rw [← hps, List.length_map]
  rcases hsrc with ⟨hv, hp0⟩ | ⟨ad, c, rfl, hcell⟩
  · obtain ⟨c, rfl⟩ : ∃ c, v = .slice none 0 c := by
      rcases hv with rfl | ⟨c, rfl⟩
      · exact ⟨0, rfl⟩
      · exact ⟨c, rfl⟩
    have hn := nilTk
    have h0 : l.length = 0 := by rw [← hpl, hp0]; rfl
    replace h0 := Lib.hid h0
    go_enter Tryd.func22, Tryd.ntmps22
    go_wp2
    go_ret
    refine ⟨_, ps, rfl, hps, hpa, ?_, Below.refl _ _⟩
    rw [h0.out, hp0]
    exact ⟨rfl, .inl ⟨rfl, rfl⟩⟩
  · have hn := someTk
    have hO : (w.alloc (.cells #[] 37)).ownsRow w.heap.size 37 4 (.slice (some ⟨w.heap.size, 0, none⟩) 0 0) 0 [] := ⟨rfl, .inr ⟨w.heap.size, 0, #[], rfl, Nat.le_refl _, (heap_alloc _ _).1, Nat.le_refl _, by simp, rfl, rfl⟩⟩
    have one := tkCells_one ps (fun p hp => by obtain ⟨a, c, h, -⟩ := hpa p hp; exact ⟨a, _, c, h⟩)
    have hnews : ∀ j u, (tkCells ps)[j]? = some u → (w.alloc (.cells #[] 37)).cell? (ad.add j) = some u := by
      intro j u hj
      have h1 := hcell j u hj
      rw [World.cell?_alloc_lt _ _ _ (cell_lt h1)]
      exact h1
    replace hcell := Lib.hid hcell
    replace hpa := Lib.hid hpa
    have hp1000 : ps.length ≤ 1000 := by omega
    replace hpl := Lib.hid hpl
    go_enter Tryd.func22, Tryd.ntmps22
    go_wp2_with (at_builtin; refine wpList_append_own _ rfl _ _ 22 rfl w.heap.size 37 i0 _ 4 64 Tryd.underlying22 hi hz0 hz1 hz2 rfl (by decide) _ _ _ rfl hO ad ps.length c (tkCells ps) rfl (tkCells_len ps) hnews one (by unfold maxLen; omega) (by omega) (by simp) ?_; intro v' w2 hO2 hg2 _)
    go_ret
    rw [Nat.zero_add, List.nil_append] at hO2
    refine ⟨_, ps, rfl, hps, hpa.out, ?_, (below1 w _).grown hg2 (by simp) (fun k hk => by cases hk; exact Nat.le_refl _)⟩
    rw [← hpl.out]
    exact hO2
set_option maxHeartbeats 1000000 in
theorem inside_any (v : Value) (l : List Tk) (w : World) (h : TkS w v l) (hl : l.length ≤ 1000) (hat : ∀ tk ∈ l, tk.as.length * 32 ≤ 140737488351232) :
    Calls Tryd.prog 10 #[v] w fun e w' => ∃ v', e = .returned v' ∧ TkF w.heap.size w' v' l ∧ Below w.heap.size w w' := by
  have hcl := Lib.hid (cloneT_any v l w h hl)
  obtain ⟨vp, vc, rfl⟩ : ∃ a c, v = .slice a l.length c := by obtain ⟨a, c, h, -⟩ := h; exact ⟨a, c, h⟩
  obtain ⟨N, hN⟩ : ∃ N, l.length = N := ⟨_, rfl⟩
  replace h := Lib.hid h
  replace hat := Lib.hid hat
  rw [hN] at hcl hl ⊢
  replace hN := Lib.hid hN
  by_cases h0 : N = 0
  · subst h0
    go_enter Tryd.func10, Tryd.ntmps10
    go_wp2_with (go_at_call 22; refine hcl.out.mono ?_; rintro e w1 ⟨v', ps, rfl, hps, hpa, hO, hb⟩; obtain ⟨va, vc', rfl⟩ := owns_val hO; replace hps := Lib.hid hps; replace hpa := Lib.hid hpa; replace hO := Lib.hid hO; replace hb := Lib.hid hb)
    go_loopw [9] (fun s9 wr => s9 = .int .i64 0 ∧ wr = w1) (fun _ _ => 0)
    case atStart => exact ⟨rfl, rfl⟩
    case round =>
      obtain ⟨rfl, rfl⟩ := hrel
      go_wp2
      go_ret
      refine ⟨_, rfl, ?_, hb.out⟩
      have hp0 : ps = [] := List.length_eq_zero_iff.1 (by rw [← List.length_map (f := (·.1)), hps.out, hN.out])
      intro W hs1 hs2
      have := owns_tks (owns_keep hO.out hs2) (by rw [← List.length_map (f := (·.1)), hps.out, hN.out]) (fun p hp => by rw [hp0] at hp; cases hp)
      rw [hps.out] at this
      exact this
  · have hNp : 0 < N := by omega
    clear h0
    go_enter Tryd.func10, Tryd.ntmps10
    go_wp2_with (go_at_call 22; refine hcl.out.mono ?_; rintro e w1 ⟨v', ps0, rfl, hps, hpa, hO, hb⟩; obtain ⟨g, c4, rfl, hg, hgs⟩ := owns_head hO hNp; replace hps := Lib.hid hps; replace hpa := Lib.hid hpa; replace hO := Lib.hid hO; replace hb := Lib.hid hb)
    go_loopw [9] (fun i wr => ∃ (k : Nat) (ps : List (Tk × Value)), k ≤ N ∧ i = .int .i64 k ∧ ps.map (·.1) = l ∧ Hid (wr.ownsRow w.heap.size 37 4 (.slice (some ⟨g, 0, none⟩) N c4) N (tkCells ps)) ∧ Hid (∀ i (h : i < ps.length), AtX (fun b => b ≠ g ∧ (i < k → w.heap.size ≤ b)) wr (ps[i]'h).2 (ps[i]'h).1.as) ∧ Hid (Below w.heap.size w wr)) (fun i _ => N - (intOf i).toNat)
    case atStart =>
      refine ⟨0, ps0, Nat.zero_le _, rfl, hps.out, hO, ?_, hb⟩
      intro i hi'
      refine AtX.mono (ok := fun b => b < w.heap.size) ?_ (fun b hb => ⟨by omega, fun h => absurd h (by omega)⟩)
      exact AtX.keep (hpa.out _ (List.getElem_mem hi')).x hb.out.size (fun b h1 _ => hb.out.block b h1)
    case round =>
      obtain ⟨k, ps, hk, rfl, hpm, hO, hX, hB⟩ := hrel
      have hpl : ps.length = N := by rw [← List.length_map (f := (·.1)), hpm, hN.out]
      by_cases hlt : k < N
      · have hlt' : k < ps.length := by omega
        have hgl : g < wr.heap.size := ((hO.out.lt g rfl).2)
        have hxk := hX.out k hlt'
        have hbd : ps[k].1.as.length * 32 ≤ 140737488351232 := by
          refine hat.out ps[k].1 ?_
          rw [← hpm]
          exact List.mem_map.2 ⟨ps[k], List.getElem_mem hlt', rfl⟩
        have c2k : wr.cell? ⟨g, k * 4 + 2, none⟩ = some ps[k].2 := by
          have := World.ownsRow.cells hO.out (g := g) rfl (k * 4 + 2) ps[k].2 (by rw [tkCells_get ps k hlt' 2 (by omega)]; rfl)
          rwa [Addr.add_lit, Nat.zero_add] at this
        have f2k := owns_frozen hO.out (k * 4 + 2)
        have hset := tkCells_set ps k hlt'
        obtain ⟨pv, hpv⟩ : ∃ z, ps[k].2 = z := ⟨_, rfl⟩
        rw [hpv] at hxk c2k
        obtain ⟨pp, pc, hsh⟩ : ∃ a c, pv = .slice a ps[k].1.as.length c := by obtain ⟨a, c, h, -⟩ := hxk; exact ⟨a, c, h⟩
        subst hsh
        have hcl := clone_any _ _ _ hxk.at hbd
        go_wp2_with (go_at_call 23; refine hcl.mono ?_; rintro e w5 ⟨sv', rfl, hX5, hb5⟩; have c5 := ((bat hb5 g hgl).1 (k * 4 + 2)).trans c2k; have f5 := ((bat hb5 g hgl).2 (k * 4 + 2)).trans f2k; obtain ⟨sp, sc, hsv⟩ : ∃ a c, sv' = .slice a ps[k].1.as.length c := by obtain ⟨a, c, h, -⟩ := hX5; exact ⟨a, c, h⟩
                     subst hsv)
        go_roundw
        case rel =>
          have hO6 := owns_set (j := k * 4 + 2) (.slice sp ps[k].1.as.length sc) (owns_keep2 hO.out (fun b hb => hb5.block b hb)) (by omega)
          rw [← hset] at hO6
          have hother : ∀ b, b ≠ g → (w5.setCell ⟨g, k * 4 + 2, none⟩ (.slice sp ps[k].1.as.length sc)).heap[b]? = w5.heap[b]? := fun b hb => Below.heap_setCell _ _ _ _ hb
          have hsz6 : (w5.setCell ⟨g, k * 4 + 2, none⟩ (.slice sp ps[k].1.as.length sc)).heap.size = w5.heap.size := by simp [World.setCell]
          refine ⟨k + 1, ps.set k (ps[k].1, .slice sp ps[k].1.as.length sc), by omega, by go_num, ?_, hO6, ?_, (belowT hB hb5).setCell (p := ⟨g, k * 4 + 2, none⟩) hg _⟩
          · rw [← hpm, List.map_set]
            apply List.ext_getElem
            · simp
            · intro i h1 h2
              rw [List.getElem_set]
              split
              · rename_i e; subst e; simp
              · rfl
          · intro i hi'
            have hi2 : i < ps.length := by simpa using hi'
            have hsw := hB.out.size
            by_cases e : i = k
            · subst e
              rw [List.getElem_set_self]
              refine AtX.keep (AtX.mono hX5 (fun b hb => ⟨by omega, fun _ => by omega⟩)) (by rw [hsz6]; exact Nat.le_refl _) (fun b hb hbg => hother b hbg.1)
            · rw [List.getElem_set_ne (fun h => e h.symm)]
              refine AtX.keep (AtX.mono (hX.out i hi2) (fun b hb => ⟨hb.1, fun h => hb.2 (by omega)⟩)) (by rw [hsz6]; exact hb5.size) (fun b hb hbg => (hother b hbg.1).trans (hb5.block b hb))
        case measure => simp [intOf]; omega
      · have hkN : k = N := by omega
        go_wp2
        go_ret
        refine ⟨_, rfl, ?_, hB⟩
        intro W hs1 hs2
        rw [← hpm]
        refine owns_tks (owns_keep hO.out hs2) hpl.symm (fun p hp => ?_)
        obtain ⟨i, hi', rfl⟩ := List.getElem_of_mem hp
        exact (AtX.keep (hX.out i hi') hs1 (fun b hb hbg => hs2 b (hbg.2 (by omega)) hb)).at
end Go.Proofs.YtcfkegfddiglcaaDoor
/-
  What a stanza's tokens say, one attribute after the other (plain); where the fields of a stanza lie. No condition.
-/
namespace Go.Proofs.YtcfkegfddiglcaaDoor
set_option linter.unusedVariables false
set_option linter.unusedSimpArgs false
open Go.RowKit Go.MapKept
theorem decA_app (z : Sz) : ∀ (a b : Ats), decA z (a ++ b) = match decA z a with | some z' => decA z' b | none => none := by
  intro a
  induction a generalizing z with
  | nil => intro b; rfl
  | cons p a ih =>
    intro b
    rw [List.cons_append, decA, decA]
    cases setZ z p with
    | none => rfl
    | some z' => exact ih z' b
theorem decA_step {z z' : Sz} {al : Ats} {j : Nat} (h : j < al.length) (ha : decA z (al.take j) = some z') : decA z (al.take (j + 1)) = setZ z' (al[j]'h) := by
  rw [List.take_succ_eq_append_getElem h, decA_app, ha]
  show decA z' [al[j]] = _
  unfold decA
  cases setZ z' al[j] <;> rfl
theorem decA_stop {z z' : Sz} {al : Ats} {j : Nat} (h : j < al.length) (ha : decA z (al.take j) = some z') (hn : setZ z' (al[j]'h) = none) : decA z al = none := by
  have e : al = al.take (j + 1) ++ al.drop (j + 1) := (List.take_append_drop _ _).symm
  rw [e, decA_app, decA_step h ha, hn]
def Sz.smallF (z : Sz) : Prop := z.ty.length ≤ 140737488351232 ∧ z.fr.length ≤ 140737488351232 ∧ z.tt.length ≤ 140737488351232 ∧ z.id.length ≤ 140737488351232
theorem decA_small {al : Ats} (hb : ∀ p ∈ al, p.1.length ≤ 140737488351232 ∧ p.2.length ≤ 140737488351232) : ∀ {z z' : Sz}, z.smallF → decA z al = some z' → z'.smallF ∧ z'.k = z.k ∧ z'.pl = z.pl := by
  induction al with
  | nil => intro z z' hz h; injection h with h; subst h; exact ⟨hz, rfl, rfl⟩
  | cons p al ih =>
    intro z z' hz h
    unfold decA at h
    have hp := (hb p (by simp)).2
    have ih' := fun {z z'} => ih (fun q hq => hb q (by simp [hq])) (z := z) (z' := z')
    cases hs : setZ z p with
    | none => rw [hs] at h; cases h
    | some z1 =>
      rw [hs] at h
      obtain ⟨h1, h2, h3, h4⟩ := hz
      have : z1.smallF ∧ z1.k = z.k ∧ z1.pl = z.pl := by
        unfold setZ at hs
        split at hs
        · injection hs with hs; subst hs; exact ⟨⟨hp, h2, h3, h4⟩, rfl, rfl⟩
        · split at hs
          · injection hs with hs; subst hs; exact ⟨⟨h1, hp, h3, h4⟩, rfl, rfl⟩
          · split at hs
            · injection hs with hs; subst hs; exact ⟨⟨h1, h2, hp, h4⟩, rfl, rfl⟩
            · split at hs
              · injection hs with hs; subst hs; exact ⟨⟨h1, h2, h3, hp⟩, rfl, rfl⟩
              · cases hs
      obtain ⟨a, b, c⟩ := ih' this.1 h
      exact ⟨a, b.trans this.2.1, c.trans this.2.2⟩
/-- the last kind of those up to j whose name is n -/
def kdTo (n : List UInt8) : Nat → Nat
  | 0 => 0
  | j + 1 => if nameK (j + 1) = n then j + 1 else kdTo n j
theorem kdTo_3 (n : List UInt8) : kdTo n 3 = kindN n := by
  unfold kindN
  show (if preL = n then 3 else if msgL = n then 2 else if iqL = n then 1 else 0) = _
  simp only [eq_comm]
theorem kdTo_le (n : List UInt8) : ∀ j, kdTo n j ≤ j
  | 0 => Nat.le_refl _
  | j + 1 => by unfold kdTo; split; · exact Nat.le_refl _
                · have := kdTo_le n j; omega
theorem whole_two {l : List Tk} (h : wholeL l = true) : 2 ≤ l.length := by
  obtain ⟨h1, h2, h3⟩ := whole_right h
  have ho := right_ops h1
  rcases Nat.lt_or_ge l.length 2 with hl | hl
  · exfalso
    match l, h2, hl, ho with
    | [tk], _, _, ho =>
      have : opsTo [tk] 1 = stepT 0 [] tk := rfl
      rw [show [tk].length = 1 from rfl, this] at ho
      unfold stepT at ho
      split at ho
      · cases ho
      · split at ho
        · injection ho with ho; simp at ho
        · split at ho
          · rename_i h; exact absurd h.2.1 (by simp)
          · split at ho
            · rename_i h; exact absurd h.2.1 (by simp)
            · cases ho
  · exact hl
theorem TkS.mid {w : World} {b o c : Nat} {l : List Tk} (h : TkS w (.slice (some ⟨b, o, none⟩) l.length c) l) (h2 : 2 ≤ l.length) : TkS w (.slice (some ⟨b, o + 4, none⟩) (l.length - 2) (c - 1)) ((l.drop 1).take (l.length - 2)) := by
  obtain ⟨ptr, cap, he, h1, h1', h3⟩ := h
  injection he with e1 e2 e3
  subst e3
  obtain ⟨b', o', e4, hb, hc⟩ := h3 (by omega)
  rw [← e1] at e4
  injection e4 with e4
  injection e4 with e4 e5 _
  subst e4 e5
  have hlen : ((l.drop 1).take (l.length - 2)).length = l.length - 2 := by simp; omega
  refine ⟨_, _, by rw [hlen], by rw [hlen]; omega, by omega, fun _ => ⟨b, o + 4, rfl, hb, fun i hi => ?_⟩⟩
  rw [hlen] at hi
  obtain ⟨sv, d0, d1, d2, d3, d4⟩ := hc (i + 1) (by omega)
  have e : ((l.drop 1).take (l.length - 2))[i]'(by rw [hlen]; exact hi) = l[i + 1]'(by omega) := by simp [Nat.add_comm]
  rw [e]
  refine ⟨sv, ?_, ?_, ?_, ?_, d4⟩
  · rw [show o + 4 + i * 4 = o + (i + 1) * 4 by omega]; exact d0
  · rw [show o + 4 + i * 4 + 1 = o + (i + 1) * 4 + 1 by omega]; exact d1
  · rw [show o + 4 + i * 4 + 2 = o + (i + 1) * 4 + 2 by omega]; exact d2
  · rw [show o + 4 + i * 4 + 3 = o + (i + 1) * 4 + 3 by omega]; exact d3
def kvP (b : Nat) : List (Value × Value) := [(.string ⟨#[116, 121, 112, 101]⟩, .pointer (some ⟨b, 1, none⟩)), (.string ⟨#[102, 114, 111, 109]⟩, .pointer (some ⟨b, 2, none⟩)), (.string ⟨#[116, 111]⟩, .pointer (some ⟨b, 3, none⟩)), (.string ⟨#[105, 100]⟩, .pointer (some ⟨b, 4, none⟩))]
theorem kvP_keys (b : Nat) : ∀ p ∈ kvP b, IsKey .string p.1 := by
  intro p hp
  simp only [kvP, List.mem_cons, List.mem_nil_iff, or_false] at hp
  rcases hp with rfl | rfl | rfl | rfl <;> trivial
theorem sameS (x n : List UInt8) : Instr.sameNow .string (.string ⟨x.toArray⟩) (.string ⟨n.toArray⟩) = some (x == n) := by
  simp only [Instr.sameNow, Option.some.injEq]
  rw [Bool.eq_iff_iff, bytes_beq]
  simp
theorem ptr_find (b : Nat) (nm : List UInt8) : findKV .string (.string ⟨nm.toArray⟩) (kvP b) = if nm = tyL then some (.pointer (some ⟨b, 1, none⟩)) else if nm = frL then some (.pointer (some ⟨b, 2, none⟩)) else if nm = toL then some (.pointer (some ⟨b, 3, none⟩)) else if nm = idL then some (.pointer (some ⟨b, 4, none⟩)) else none := by
  have e1 : Instr.sameNow .string (.string ⟨nm.toArray⟩) (.string ⟨#[116, 121, 112, 101]⟩) = some (nm == tyL) := sameS nm tyL
  have e2 : Instr.sameNow .string (.string ⟨nm.toArray⟩) (.string ⟨#[102, 114, 111, 109]⟩) = some (nm == frL) := sameS nm frL
  have e3 : Instr.sameNow .string (.string ⟨nm.toArray⟩) (.string ⟨#[116, 111]⟩) = some (nm == toL) := sameS nm toL
  have e4 : Instr.sameNow .string (.string ⟨nm.toArray⟩) (.string ⟨#[105, 100]⟩) = some (nm == idL) := sameS nm idL
  simp only [kvP, findKV, e1, e2, e3, e4, Option.some.injEq, beq_iff_eq]
def objZ (z : Sz) (sv : Value) : Obj := .cells #[.int .u8 z.k, .string ⟨z.ty.toArray⟩, .string ⟨z.fr.toArray⟩, .string ⟨z.tt.toArray⟩, .string ⟨z.id.toArray⟩, sv] 25
end Go.Proofs.YtcfkegfddiglcaaDoor
