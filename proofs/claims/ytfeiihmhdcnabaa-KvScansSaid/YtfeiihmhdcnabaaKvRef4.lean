/-
  The reference's maps: Scan, Fork; whether pairs are the same. Printed by wip/tools/genkv.py. Condition: the map's pairs are right (okE).
-/
import Derived.Test.YtfeiihmhdcnabaaKvRef3
import Derived.Maps.AppendAt
import Derived.BigQuiet
import Derived.Deep.QuietTactic
import Derived.Deep.Upon
import Derived.Deep.RegionHeld3
import Derived.Laws.StructEq
namespace Go.Proofs.Ytfeiihmhdcnabaa
set_option linter.unusedVariables false
set_option linter.unusedSimpArgs false
open Go.RowKit Go.MapKept
theorem same_pre {α : Type} : ∀ {a b : List α}, a.length = b.length → (∀ j (h1 : j < a.length) (h2 : j < b.length), a[j]'h1 = b[j]'h2) → a = b := fun h1 h2 => List.ext_getElem h1 h2
theorem take_prefix {p c : Txt} (h : p.length ≤ c.length) : (c.take p.length == p) = p.isPrefixOf c := by
  rw [Bool.eq_iff_iff, beq_iff_eq, List.isPrefixOf_iff_prefix]
  constructor
  · intro e; rw [← e]; exact List.take_prefix _ _
  · intro e; exact (List.prefix_iff_eq_take.1 e).symm
theorem short_prefix {p c : Txt} (h : ¬ p.length ≤ c.length) : p.isPrefixOf c = false := by
  cases hp : p.isPrefixOf c with
  | false => rfl
  | true =>
    rw [List.isPrefixOf_iff_prefix] at hp
    exact absurd hp.length_le h
theorem scan_snoc' {E : Ats} {p : Txt} {k : Nat} (h : k < E.length) : scanE (E.take (k + 1)) p = scanE (E.take k) p ++ if p.isPrefixOf (E[k]'h).1 then [E[k]'h] else [] := by
  unfold scanE
  rw [List.take_add_one, List.getElem?_eq_getElem h, List.filter_append]
  congr 1
  cases hq : p.isPrefixOf (E[k]'h).1 <;> simp [hq]
set_option maxRecDepth 100000 in
set_option maxHeartbeats 2000000 in
theorem refScan_any (g : Nat) (E : Ats) (p : Txt) (w : World) (h : RfS w g E) :
    Calls Try.prog 34 #[.pointer (some ⟨g, 0, none⟩), .string ⟨p.toArray⟩] w fun e w' => ∃ sv, e = .returned sv ∧ AtS w' sv (scanE E p) ∧ Below w.heap.size w w' := by
  obtain ⟨i0, hi, hz0, hz1, hz2⟩ := info_parts infoP
  obtain ⟨hok, ptr, cap, hg, hA⟩ := h
  have hl := hok.2.1
  obtain ⟨hcell0, hfz, hgs⟩ := obj_cells hg
  replace hcell0 := hcell0 0
  simp at hcell0
  obtain ⟨N, hN⟩ : ∃ N, E.length = N := ⟨_, rfl⟩
  rw [hN] at hl hcell0
  rw [hN] at hA
  obtain ⟨p', c', he, -, -, hat⟩ := hA
  obtain ⟨rfl, -, rfl⟩ := Value.slice.inj he
  clear hg hok he hfz
  replace hN := Lib.hid hN
  replace hat := Lib.hid hat
  replace hcell0 := Lib.hid hcell0
  go_enter Try.func34, Try.ntmps34
  go_wp2
  go_loopw [5, 6] (fun s5 s6 wr => ∃ k : Nat, k ≤ N ∧ s6 = .int .i64 k ∧ Hid (wr.ownsRow w.heap.size 39 2 s5 (scanE (E.take k) p).length (atCells (scanE (E.take k) p))) ∧ Hid (Below w.heap.size w wr)) (fun _ s6 _ => N - (intOf s6).toNat)
  case atStart => exact ⟨0, Nat.zero_le _, rfl, Lib.hid (World.ownsRow_nil _ _ _ _), Lib.hid (Below.refl _ _)⟩
  case round =>
    obtain ⟨k, hk, rfl, hO, hB⟩ := hrel
    obtain ⟨na, nc, rfl⟩ := owns_shp hO.out
    have hcell := (hB.out.cell (p := ⟨g, 0, none⟩) hgs).trans hcell0.out
    have hsz := Lib.hid hB.out.size
    by_cases hlt : k < N
    · have hk3 : k < E.length := by have := hN.out; omega
      obtain ⟨b, o, rfl, hb, hcc⟩ := hat.out (by omega)
      obtain ⟨d0, d1⟩ := hcc k hk3
      have kc := fun (j : Nat) => hB.out.cell (p := ⟨b, j, none⟩) hb
      replace d0 := (kc _).trans d0
      replace d1 := (kc _).trans d1
      have hsn := scan_snoc' (p := p) hk3
      have hfl : Hid ((scanE (E.take k) p).length ≤ k) := Lib.hid (Nat.le_trans (List.length_filter_le _ _) (by simp; omega))
      clear hcc kc
      generalize hE : E[k] = x at d0 d1 hsn
      obtain ⟨ch, pa⟩ := x
      simp only at d0 d1 hsn
      replace hE := Lib.hid hE
      have hki : (k : Int) < (N : Int) := by omega
      have hk0 : (0 : Int) ≤ (k : Int) := by omega
      have hbw : b < wr.heap.size := Nat.lt_of_lt_of_le hb hsz.out
      have hgw : g < wr.heap.size := Nat.lt_of_lt_of_le hgs hsz.out
      by_cases hlen : p.length ≤ ch.length
      · have hleni : (p.length : Int) ≤ (ch.length : Int) := by omega
        have htp := take_prefix hlen
        have hex := ext0 ch p.length
        cases hq : p.isPrefixOf ch with
        | true =>
          rw [hq] at htp hsn
          replace hsn := Lib.hid hsn
          replace hq := Lib.hid hq
          go_wp2_with (at_builtin; refine wpList_append_own _ rfl _ _ 36 rfl w.heap.size 39 i0 _ 2 32 underP hi hz0 hz1 hz2 rfl (by decide) _ _ _ rfl (hO.out.alloc _) ⟨wr.heap.size, 0, none⟩ 1 1 (vC ch pa) rfl rfl (fun j u h => by rw [Addr.add_lit]; exact vC_cells (heap_alloc _ _).1 j u h) (vC_one _ _) (by have := hfl.out; unfold maxLen; omega) (by have := hfl.out; omega) (by have := hsz.out; simp only [World.size_alloc]; omega) ?_
                       intro v5 w5 hO5 hg5 _
                       have hb5 := (belowA hB.out (.cells #[.string ⟨ch.toArray⟩, .string ⟨pa.toArray⟩] 39)).grown hg5 (by have := hsz.out; simp only [World.size_alloc]; omega) (fun k hk => ((hO.out.alloc (.cells #[.string ⟨ch.toArray⟩, .string ⟨pa.toArray⟩] 39)).lt k hk).1)
                       obtain ⟨m15, m25, rfl⟩ := owns_shp hO5
                       have hsz5 := Lib.hid hb5.size
                       replace hO5 := Lib.hid hO5
                       replace hb5 := Lib.hid hb5)
          go_roundw
          case rel =>
            refine ⟨k + 1, by omega, by simp, ?_, hb5⟩
            rw [hsn.out, if_pos rfl, List.length_append, atC_app]
            exact hO5
          case measure => simp [intOf]; omega
        | false =>
          rw [hq, if_neg (by simp), List.append_nil] at hsn
          rw [hq] at htp
          replace hsn := Lib.hid hsn
          replace hq := Lib.hid hq
          go_wp2
          go_roundw
          case rel =>
            refine ⟨k + 1, by omega, by simp, ?_, hB⟩
            rw [hsn.out]
            exact hO
          case measure => simp [intOf]; omega
      · have hleni : ¬ (p.length : Int) ≤ (ch.length : Int) := by omega
        rw [short_prefix hlen, if_neg (by simp), List.append_nil] at hsn
        replace hsn := Lib.hid hsn
        go_wp2
        go_roundw
        case rel =>
          refine ⟨k + 1, by omega, by simp, ?_, hB⟩
          rw [hsn.out]
          exact hO
        case measure => simp [intOf]; omega
    · obtain rfl : k = N := by omega
      have e4 : E.take k = E := List.take_of_length_le (by have := hN.out; omega)
      rw [e4] at hO
      have hki : ¬ (k : Int) < (k : Int) := by omega
      have hX := Lib.hid (owns_pair hO.out)
      go_wp2
      go_ret
      exact ⟨_, rfl, hX.out, hB.out⟩
theorem nothing_srcP {P : Program} (w : World) (t ty e : TypeId) (i : TypeInfo) (ht : P.underlying t = some (.slice e)) (hi : P.info? e = some i) (a : Option Addr) (n c c' : Nat) (h : n ≤ c) : (Builtin.append_ #[t, t] ty #[.slice a n c, .slice none 0 c']).run P w = .ok (.slice a n c) w :=
  run_append_nothing w t t ty e i ht hi a n c h _ (Src.ofNil w ht c')
theorem wpList_append_runP {P : Program} (w w' : World) {ops : Array Oper} {rest : List Oper} {o : Oper} {a : Act} {Q : Exit → Act → World → Prop} (hgd : o.guard = none) (s x : Operand) (t : TypeId)
    (ho : o.op = .call { callee := .builtin .append, args := #[s, x], argTypes := #[t, t] }) (v u v' : Value) (hs : a.eval s = v) (hx : a.eval x = u)
    (hrun : (Builtin.append_ #[t, t] o.type #[v, u]).run P w = .ok v' w') (h : wpList P ops Q rest (a.put o.dst v') w') : wpList P ops Q (o :: rest) a w := by
  refine wpList_plain hgd fun K hK => ?_
  unfold Oper.wp execOp
  simp only [ho, resolve, invoke, builtin, Sem.run_bind, Sem.run_pure, Result.andThen_ok, List.map_toArray, List.map_cons, List.map_nil, hs, hx, hrun]
  exact hK _ _ h
theorem append_pairs (g : Nat) (sv : Value) (al : Ats) (w : World) (hg : w.heap[g]? = some (.cells #[] 39 (0, 0))) (h : AtS w sv al) (hl : al.length * 32 ≤ 140737488351232) :
    ∃ v' w', (Builtin.append_ #[36, 36] 36 #[.slice (some ⟨g, 0, none⟩) 0 0, sv]).run Try.prog w = .ok v' w' ∧ AtS w' v' al ∧ Below g w w' := by
  obtain ⟨i0, hi, hz0, hz1, hz2⟩ := info_parts infoP
  have hlt : g < w.heap.size := (Array.getElem?_eq_some_iff.1 hg).1
  obtain ⟨ptr, cap, rfl, hc1, hc2, hat⟩ := h
  cases ptr with
  | none =>
    have h0 : al = [] := by
      rcases Nat.eq_zero_or_pos al.length with h | h
      · exact List.length_eq_zero_iff.1 h
      · obtain ⟨b, o, hp, -⟩ := hat h; cases hp
    subst h0
    exact ⟨_, w, nothing_srcP (P := Try.prog) w 36 36 39 i0 Try.underlying36 hi (some ⟨g, 0, none⟩) 0 0 cap (Nat.le_refl _), ⟨_, 0, rfl, by simp, by simp, fun h => absurd h (by simp)⟩, Below.refl _ _⟩
  | some ad =>
    have hO : w.ownsRow g 39 2 (.slice (some ⟨g, 0, none⟩) 0 0) 0 [] := ⟨rfl, .inr ⟨g, 0, #[], rfl, Nat.le_refl _, hg, Nat.le_refl _, by simp, rfl, rfl⟩⟩
    have hnews : ∀ j u, (atCells al)[j]? = some u → w.cell? (ad.add j) = some u := by
      intro j u hj
      have hj' : j < al.length * 2 := by rw [← atCells_len]; exact (List.getElem?_eq_some_iff.1 hj).1
      obtain ⟨b, o, hp, hb, hcell⟩ := hat (by omega)
      have hp := Option.some.inj hp
      subst hp
      rw [Addr.add_lit]
      rcases atCells_of al j u hj with ⟨i, hi', rfl, rfl⟩ | ⟨i, hi', rfl, rfl⟩
      · exact (hcell i hi').1
      · rw [← Nat.add_assoc]; exact (hcell i hi').2
    obtain ⟨v', w', hrun, hown, hgr, _, _⟩ := run_append_own_at (P := Try.prog) w g 36 36 39 i0 (.agg #[.string ⟨#[]⟩, .string ⟨#[]⟩]) 2 32 Try.underlying36 hi hz0 hz1 hz2 rfl (by decide) _ _ _ hO ad al.length cap (atCells al) (atCells_len al) hnews (atCells_one al) (by unfold maxLen; omega) (by omega) (by omega)
    rw [Nat.zero_add, List.nil_append] at hown
    exact ⟨v', w', hrun, owns_pair hown, (Below.refl g w).grown hgr (by omega) (fun k hk => by cases hk; exact Nat.le_refl _)⟩
set_option maxHeartbeats 2000000 in
theorem refFork_any (g : Nat) (E : Ats) (w : World) (h : RfS w g E) :
    Calls Try.prog 25 #[.pointer (some ⟨g, 0, none⟩)] w fun e w' => ∃ g', e = .returned (.pointer (some ⟨g', 0, none⟩)) ∧ w.heap.size ≤ g' ∧ RfS w' g' E ∧ Below w.heap.size w w' := by
  obtain ⟨hok, ptr, cap, hg, hA⟩ := h
  obtain ⟨v5, w5, hrun, hX, hb5⟩ := append_pairs w.heap.size _ E (w.alloc (.cells #[] 39)) (al_newK w _) (hA.below (below1 w _)) (by have := hok.2.1; omega)
  have hB5 : Below w.heap.size w w5 := (below1 w _).trans hb5
  obtain ⟨a5, c5, rfl⟩ : ∃ a c, v5 = .slice a E.length c := by obtain ⟨a, c, h, -⟩ := hX; exact ⟨a, c, h⟩
  obtain ⟨hcell, hfz, hgs⟩ := obj_cells hg
  replace hcell := hcell 0
  simp at hcell
  replace hX := Lib.hid hX
  replace hrun := Lib.hid hrun
  replace hB5 := Lib.hid hB5
  replace hok := Lib.hid hok
  clear hg hA hb5
  go_enter Try.func25, Try.ntmps25
  go_wp2_with (at_builtin; refine wpList_append_runP _ w5 rfl _ _ 36 rfl _ _ _ rfl rfl hrun.out ?_)
  go_ret
  exact ⟨_, rfl, hB5.out.size, ⟨hok.out, a5, c5, al_newK _ _, hX.out.below (below1 _ _)⟩, hB5.out.alloc hB5.out.size _⟩
theorem neqP_run (a b c d : Txt) (W : World) : (binOp .neq 39 (.agg #[.string ⟨a.toArray⟩, .string ⟨b.toArray⟩]) (.agg #[.string ⟨c.toArray⟩, .string ⟨d.toArray⟩])).run Try.prog W = .ok (.bool (!decide ((a, b) = (c, d)))) W := by
  have ht : Try.prog.underlying 39 = some (.struct (Try.prog.fieldsOf 39)) := by kernel_rfl
  have hp : Try.prog.stoodInHeld 39 = false := by kernel_rfl
  have hF : ∃ f1 f2, (Try.prog.fieldsOf 39).toList = [f1, f2] ∧ f1.name ≠ "_" ∧ f2.name ≠ "_" ∧ f1.type = 9 ∧ f2.type = 9 ∧ f1.offset = 0 ∧ f2.offset = 1 := by
    refine ⟨(Try.prog.fieldsOf 39)[0]!, (Try.prog.fieldsOf 39)[1]!, ?_⟩
    refine ⟨by kernel_rfl, ?_⟩
    exact ⟨of_decide_eq_true (by kernel_rfl), of_decide_eq_true (by kernel_rfl), by kernel_rfl, by kernel_rfl, by kernel_rfl, by kernel_rfl⟩
  obtain ⟨f1, f2, hl, n1, n2, t1, t2, o1, o2⟩ := hF
  have hS := Try.underlying9
  rw [run_neq_struct, run_equalIn_agg (d := 9999) (ht := ht) (hp := hp), hl]
  simp [Op.eqFields, n1, n2, t1, t2, o1, o2, go_sem, hS]
  by_cases h1 : a = c
  · by_cases h2 : b = d <;> simp [h1, h2]
  · simp [h1]
set_option maxHeartbeats 1000000 in
theorem sameP_any (v1 v2 : Value) (a b : Ats) (w : World) (hA : AtS w v1 a) (hB0 : AtS w v2 b) (hl : a.length ≤ 1000) :
    Calls Try.prog 33 #[v1, v2] w fun e w' => e = .returned (.bool (decide (a = b))) ∧ Below w.heap.size w w' := by
  obtain ⟨p1, c1, rfl, h11, h12, hat1⟩ := hA
  obtain ⟨p2, c2, rfl, h21, h22, hat2⟩ := hB0
  have hb63 : (b.length : Int) ≤ 9223372036854775807 := by unfold maxLen at h22; omega
  by_cases hab : a.length = b.length
  · obtain ⟨N, hN⟩ : ∃ N, a.length = N := ⟨_, rfl⟩
    have hN2 : b.length = N := by omega
    rw [hN2, hN]
    rw [hN] at hl
    replace hN := Lib.hid hN
    replace hN2 := Lib.hid hN2
    replace hat1 := Lib.hid hat1
    replace hat2 := Lib.hid hat2
    clear h11 h12 h21 h22 hab hb63
    go_enter Try.func33, Try.ntmps33
    go_wp2
    go_loopw [5] (fun s5 wr => ∃ k : Nat, k ≤ N ∧ s5 = .int .i64 k ∧ Hid (∀ j (h1 : j < a.length) (h2 : j < b.length), j < k → a[j]'h1 = b[j]'h2) ∧ Hid (Below w.heap.size w wr)) (fun s5 _ => N - (intOf s5).toNat)
    case atStart => exact ⟨0, Nat.zero_le _, rfl, Lib.hid (fun i _ _ hi => absurd hi (Nat.not_lt_zero _)), Lib.hid (Below.refl _ _)⟩
    case round =>
      obtain ⟨k, hk, rfl, hno, hB⟩ := hrel
      by_cases hlt : k < N
      · have hk1 : k < a.length := by have := hN.out; omega
        have hk2 : k < b.length := by have := hN2.out; omega
        obtain ⟨b1, o1, rfl, hb1, hcc1⟩ := hat1.out (by omega)
        obtain ⟨b2, o2, rfl, hb2, hcc2⟩ := hat2.out (by omega)
        have d1 := (hB.out.cell (p := ⟨b1, o1 + k * 2, none⟩) hb1).trans (hcc1 k hk1).1
        have d2 := (hB.out.cell (p := ⟨b1, o1 + k * 2 + 1, none⟩) hb1).trans (hcc1 k hk1).2
        have e1 := (hB.out.cell (p := ⟨b2, o2 + k * 2, none⟩) hb2).trans (hcc2 k hk2).1
        have e2 := (hB.out.cell (p := ⟨b2, o2 + k * 2 + 1, none⟩) hb2).trans (hcc2 k hk2).2
        clear hcc1 hcc2
        have hneq : a[k]'hk1 ≠ b[k]'hk2 → decide (a = b) = false := fun h => by
          rw [decide_eq_false_iff_not]
          intro e
          subst e
          exact h rfl
        generalize hE1 : a[k] = x at d1 d2 hneq
        generalize hE2 : b[k] = y at e1 e2 hneq
        obtain ⟨x1, x2⟩ := x
        obtain ⟨y1, y2⟩ := y
        simp only at d1 d2 e1 e2
        replace hE1 := Lib.hid hE1
        replace hE2 := Lib.hid hE2
        have hki : (k : Int) < (N : Int) := by omega
        have hk0 : (0 : Int) ≤ (k : Int) := by omega
        have hbw1 : b1 < wr.heap.size := Nat.lt_of_lt_of_le hb1 hB.out.size
        have hbw2 : b2 < wr.heap.size := Nat.lt_of_lt_of_le hb2 hB.out.size
        have hq := neqP_run x1 x2 y1 y2
        by_cases hx : (x1, x2) = (y1, y2)
        · clear hneq
          rw [decide_eq_true hx] at hq
          replace hx := Lib.hid hx
          go_wp2_with fail
          go_quiet (fail)
          go_wp2_with fail
          go_roundw
          case rel =>
            refine ⟨k + 1, by omega, by simp, Lib.hid (fun i h1 h2 hi => ?_), Lib.hid (belowN hB.out _)⟩
            rcases Nat.lt_or_ge i k with h' | h'
            · exact hno.out i h1 h2 h'
            · obtain rfl : i = k := by omega
              rw [hE1.out, hE2.out, hx.out]
          case measure => simp [intOf]; omega
        · have hr := Lib.hid (hneq hx)
          rw [decide_eq_false hx] at hq
          clear hneq
          replace hx := Lib.hid hx
          go_wp2_with fail
          go_quiet (fail)
          go_wp2_with fail
          go_ret
          rw [hr.out]
          exact ⟨rfl, (belowN hB.out _)⟩
      · obtain rfl : k = N := by omega
        have hr := Lib.hid (show decide (a = b) = true by
          rw [decide_eq_true_iff]
          exact same_pre (by rw [hN.out, hN2.out]) (fun j h1 h2 => hno.out j h1 h2 (by have := hN.out; omega)))
        have hki : ¬ (k : Int) < (k : Int) := by omega
        go_wp2
        go_ret
        rw [hr.out]
        exact ⟨rfl, hB.out⟩
  · have hr := Lib.hid (show decide (a = b) = false by rw [decide_eq_false_iff_not]; intro e; exact hab (by rw [e]))
    have hne : ¬ (a.length : Int) = (b.length : Int) := by omega
    go_enter Try.func33, Try.ntmps33
    go_wp2
    go_ret
    rw [hr.out]
    exact ⟨rfl, Below.refl _ _⟩
end Go.Proofs.Ytfeiihmhdcnabaa
