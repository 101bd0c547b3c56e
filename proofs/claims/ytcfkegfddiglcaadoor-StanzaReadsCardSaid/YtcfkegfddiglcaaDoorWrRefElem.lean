/-
  The reference's Element. Conditions: at most 1000 tokens; each slice of attributes takes at most 2^47 bytes.
-/
import Derived.Test.YtcfkegfddiglcaaDoorWrElem3
import Derived.Test.YtcfkegfddiglcaaDoorWrWalk
namespace Go.Proofs.YtcfkegfddiglcaaDoor
set_option linter.unusedVariables false
set_option linter.unusedSimpArgs false
open Go.RowKit Go.MapKept
theorem wpList_append_run {P : Program} (w w' : World) {ops : Array Oper} {rest : List Oper} {o : Oper} {a : Act} {Q : Exit → Act → World → Prop} (hgd : o.guard = none) (s x : Operand) (t : TypeId)
    (ho : o.op = .call { callee := .builtin .append, args := #[s, x], argTypes := #[t, t] }) (v u v' : Value) (hs : a.eval s = v) (hx : a.eval x = u)
    (hrun : (Builtin.append_ #[t, t] o.type #[v, u]).run P w = .ok v' w') (h : wpList P ops Q rest (a.put o.dst v') w') : wpList P ops Q (o :: rest) a w := by
  refine wpList_plain hgd fun K hK => ?_
  unfold Oper.wp execOp
  simp only [ho, resolve, invoke, builtin, Sem.run_bind, Sem.run_pure, Result.andThen_ok, List.map_toArray, List.map_cons, List.map_nil, hs, hx, hrun]
  exact hK _ _ h
theorem AtX.mono2 {ok ok' : Nat → Prop} {w : World} {sv : Value} {al : Ats} (h : AtX ok w sv al) (hk : ∀ b, b < w.heap.size → ok b → ok' b) : AtX ok' w sv al := by
  obtain ⟨ptr, cap, h1, h2, h3, h4⟩ := h
  refine ⟨ptr, cap, h1, h2, h3, fun h0 => ?_⟩
  obtain ⟨b, o, h5, h6, h7, h8⟩ := h4 h0
  exact ⟨b, o, h5, h6, hk b h6 h7, h8⟩
/-- attributes behind a new empty slice -/
theorem append_at (g : Nat) (sv : Value) (al : Ats) (w : World) (hg : w.heap[g]? = some (.cells #[] 39 (0, 0))) (h : AtS w sv al) (hl : al.length * 32 ≤ 140737488351232) :
    ∃ v' w', (Builtin.append_ #[35, 35] 35 #[.slice (some ⟨g, 0, none⟩) 0 0, sv]).run Tryd.prog w = .ok v' w' ∧ AtX (fun b => g ≤ b) w' v' al ∧ Below g w w' := by
  obtain ⟨i0, hi, hz0, hz1, hz2⟩ := info_parts infoA
  have hlt : g < w.heap.size := (Array.getElem?_eq_some_iff.1 hg).1
  obtain ⟨ptr, cap, rfl, hc1, hc2, hat⟩ := h
  cases ptr with
  | none =>
    have h0 : al = [] := by
      rcases Nat.eq_zero_or_pos al.length with h | h
      · exact List.length_eq_zero_iff.1 h
      · obtain ⟨b, o, hp, -⟩ := hat h; cases hp
    subst h0
    exact ⟨_, w, nothing_src (P := Tryd.prog) w 35 35 39 i0 Tryd.underlying35 hi (some ⟨g, 0, none⟩) 0 0 cap (Nat.le_refl _), ⟨_, 0, rfl, by simp, by simp, fun h => absurd h (by simp)⟩, Below.refl _ _⟩
  | some ad =>
    have hO : w.ownsRow g 39 2 (.slice (some ⟨g, 0, none⟩) 0 0) 0 [] := ⟨rfl, .inr ⟨g, 0, #[], rfl, Nat.le_refl _, hg, Nat.le_refl _, by simp, rfl, rfl⟩⟩
    have hnews : ∀ j u, (atCells al)[j]? = some u → w.cell? (ad.add j) = some u := by
      intro j u hj
      have hj' : j < al.length * 2 := by rw [← atCells_len]; exact (List.getElem?_eq_some_iff.1 hj).1
      obtain ⟨b, o, hp, hb, hcell⟩ := hat (by omega)
      have hp := Option.some.inj hp
      subst hp
      rw [Addr.add_lit]
      rcases atCells_of al j u hj with ⟨i, hi', rfl, rfl⟩ | ⟨i, hi', rfl, rfl⟩
      · exact (hcell i hi').1
      · rw [← Nat.add_assoc]; exact (hcell i hi').2
    obtain ⟨v', w', hrun, hown, hgr, _, _⟩ := run_append_own_at (P := Tryd.prog) w g 35 35 39 i0 (.agg #[.string ⟨#[]⟩, .string ⟨#[]⟩]) 2 32 Tryd.underlying35 hi hz0 hz1 hz2 rfl (by decide) _ _ _ hO ad al.length cap (atCells al) (atCells_len al) hnews (atCells_one al) (by unfold maxLen; omega) (by omega) (by omega)
    rw [Nat.zero_add, List.nil_append] at hown
    exact ⟨v', w', hrun, owns_at hown rfl, (Below.refl g w).grown hgr (by omega) (fun k hk => by cases hk; exact Nat.le_refl _)⟩
theorem bare_nil (w : World) (o : Obj) : (w.alloc o).heap[w.heap.size]? = some o := (heap_alloc w o).1
set_option maxHeartbeats 8000000 in
theorem refElement_any (name : List UInt8) (sv iv : Value) (al : Ats) (tks : List Tk) (w : World) (hA : AtS w sv al) (hal : al.length * 32 ≤ 140737488351232) (hT : TkS w iv tks) (htl : tks.length ≤ 1000) (hat : ∀ tk ∈ tks, tk.as.length * 32 ≤ 140737488351232) :
    Calls Tryd.prog 14 #[.string ⟨name.toArray⟩, sv, iv] w fun e w' => ∃ v, e = .returned v ∧ TkF w.heap.size w' v (elemL name al tks) ∧ Below w.heap.size w w' := by
  obtain ⟨i0, hi, hz0, hz1, hz2⟩ := info_parts infoT
  obtain ⟨v13, w13, hrun13, hX13, hb13⟩ := append_at w.heap.size sv al (w.alloc (.cells #[] 39)) (bare_nil w _) (hA.below (below1 w _)) hal
  have hB13 : Below w.heap.size w w13 := (below1 w _).trans hb13
  obtain ⟨a13, c13, rfl⟩ : ∃ a c, v13 = .slice a al.length c := by obtain ⟨a, c, h, -⟩ := hX13; exact ⟨a, c, h⟩
  obtain ⟨svp, svc, rfl⟩ : ∃ a c, sv = .slice a al.length c := by obtain ⟨a, c, h, -⟩ := hA; exact ⟨a, c, h⟩
  obtain ⟨ivp, ivc, rfl⟩ : ∃ a c, iv = .slice a tks.length c := by obtain ⟨a, c, h, -⟩ := hT; exact ⟨a, c, h⟩
  have hmx : (tks.length : Int) ≤ 9223372036854775807 := by omega
  replace hT := Lib.hid hT
  replace hrun13 := Lib.hid hrun13
  go_enter Tryd.func14, Tryd.ntmps14
  go_wp2_with (at_builtin; refine wpList_append_run _ w13 rfl _ _ 35 rfl _ _ _ rfl rfl hrun13.out ?_)
  have one1 := tkCells_one [(⟨1, name, al, []⟩, .slice a13 al.length c13)] (by intro p hp; rw [List.mem_singleton.1 hp]; exact ⟨_, _, _, rfl⟩)
  have hO1 : (w13.alloc (.cells #[.int .u8 1, .string ⟨name.toArray⟩, .slice a13 al.length c13, .string ⟨#[]⟩] 37)).ownsRow w.heap.size 37 4 (.slice (some ⟨w13.heap.size, 0, none⟩) 1 1) 1 (tkCells [(⟨1, name, al, []⟩, .slice a13 al.length c13)]) :=
    ⟨rfl, .inr ⟨w13.heap.size, 1, _, rfl, hB13.size, bare_nil _ _, Nat.le_refl _, by unfold maxLen; decide, rfl, rfl⟩⟩
  replace hO1 := Lib.hid hO1
  go_loopw [7, 8] (fun s7 s8 wr => ∃ (k : Nat) (ps : List (Tk × Value)), k ≤ tks.length ∧ s8 = .int .i64 k ∧ ps.map (·.1) = ⟨1, name, al, []⟩ :: tks.take k ∧ Hid (wr.ownsRow w.heap.size 37 4 s7 (k + 1) (tkCells ps)) ∧ Hid (∀ p ∈ ps, AtX (fun b => some b ≠ s7.ownBlock ∧ w.heap.size ≤ b) wr p.2 p.1.as) ∧ Hid (Below w.heap.size w wr)) (fun _ s8 _ => tks.length - (intOf s8).toNat)
  case atStart =>
    refine ⟨0, [(⟨1, name, al, []⟩, .slice a13 al.length c13)], Nat.zero_le _, rfl, rfl, hO1.out, Lib.hid ?_, hB13.alloc hB13.size _⟩
    intro p hp
    rw [List.mem_singleton.1 hp]
    refine AtX.keep (AtX.mono2 hX13 (ok' := fun b => some b ≠ (Value.slice (some ⟨w13.heap.size, 0, none⟩) 1 1).ownBlock ∧ w.heap.size ≤ b) (fun b hb hg => ⟨?_, hg⟩)) (by simp) (fun b hb _ => (heap_alloc _ _).2 b hb)
    intro e
    have e' : b = w13.heap.size := by injection e
    omega
  case round =>
    obtain ⟨k, ps, hk, rfl, hpm, hO, hX, BW⟩ := hrel
    have hsz := BW.out.size
    replace hpm := Lib.hid hpm
    by_cases hlt : k < tks.length
    · obtain ⟨_, _, he, _, _, h3⟩ := hT.out
      injection he with he _ _
      subst he
      obtain ⟨b, o, rfl, hb, hcc⟩ := h3 (by omega)
      obtain ⟨sv0, d0, d1, d2, d3, hat0⟩ := hcc k hlt
      have kc := fun (j : Nat) => BW.out.cell (p := ⟨b, j, none⟩) hb
      replace d0 := (kc _).trans d0
      replace d1 := (kc _).trans d1
      replace d2 := (kc _).trans d2
      replace d3 := (kc _).trans d3
      have hbd := hat _ (List.getElem_mem hlt)
      have hbw : b < wr.heap.size := Nat.lt_of_lt_of_le hb hsz
      clear kc hcc h3
      generalize htk : tks[k] = tk at d0 d1 d2 d3 hat0 hbd
      replace htk := Lib.hid htk
      obtain ⟨kd, n0, as0, t0⟩ := tk
      simp only at d0 d1 d2 d3 hat0 hbd
      obtain ⟨sp0, sc0, rfl⟩ : ∃ a c, sv0 = .slice a as0.length c := by obtain ⟨a, c, h, -⟩ := hat0; exact ⟨a, c, h⟩
      have hB9 : Below wr.heap.size wr ((wr.alloc (.cells #[.int .u8 kd, .string ⟨n0.toArray⟩, .slice sp0 as0.length sc0, .string ⟨t0.toArray⟩] 37)).alloc (.cells #[] 39)) := belowA (below1 wr _) _
      obtain ⟨v29, w29, hrun29, hX29, hb29⟩ := append_at (wr.heap.size + 1) (.slice sp0 as0.length sc0) as0 ((wr.alloc (.cells #[.int .u8 kd, .string ⟨n0.toArray⟩, .slice sp0 as0.length sc0, .string ⟨t0.toArray⟩] 37)).alloc (.cells #[] 39)) (by have := bare_nil (wr.alloc (.cells #[.int .u8 kd, .string ⟨n0.toArray⟩, .slice sp0 as0.length sc0, .string ⟨t0.toArray⟩] 37)) (.cells #[] 39); rw [World.size_alloc] at this; exact this)
        (hat0.below (BW.out.trans (hB9.mono hsz))) hbd
      obtain ⟨a29, c29, rfl⟩ : ∃ a c, v29 = .slice a as0.length c := by obtain ⟨a, c, h, -⟩ := hX29; exact ⟨a, c, h⟩
      have gc := fun (j : Nat) => hb29.cell (p := ⟨wr.heap.size, j, none⟩) (by show wr.heap.size < wr.heap.size + 1; omega)
      have gf := hb29.frozen (p := ⟨wr.heap.size, 2, none⟩) (by show wr.heap.size < wr.heap.size + 1; omega)
      have g0 := (gc 0).trans (by simp : _ = some (.int .u8 kd))
      have g1 := (gc 1).trans (by simp : _ = some (.string ⟨n0.toArray⟩))
      have g2 := (gc 2).trans (by simp : _ = some (.slice sp0 as0.length sc0))
      have g3 := (gc 3).trans (by simp : _ = some (.string ⟨t0.toArray⟩))
      replace gf := gf.trans (by simp : _ = false)
      clear gc
      have hB29 : Below wr.heap.size wr w29 := hB9.trans (hb29.mono (by omega))
      have hB30 : Below wr.heap.size wr ((w29.setCell ⟨wr.heap.size, 2, none⟩ (.slice a29 as0.length c29)).alloc (.cells #[.int .u8 kd, .string ⟨n0.toArray⟩, .slice a29 as0.length c29, .string ⟨t0.toArray⟩] 37)) := (hB29.setCell (p := ⟨wr.heap.size, 2, none⟩) (Nat.le_refl _) _).alloc (by simpa using hB29.size) _
      have hO30 := owns_keep2 hO.out hB30.block
      have hsz30 : (w29.setCell ⟨wr.heap.size, 2, none⟩ (.slice a29 as0.length c29)).heap.size = w29.heap.size := by simp [World.setCell]
      have oneN := tkCells_one [(⟨kd, n0, as0, t0⟩, .slice a29 as0.length c29)] (by intro p hp; rw [List.mem_singleton.1 hp]; exact ⟨_, _, _, rfl⟩)
      obtain ⟨v34, w34, hrun34, hO34, hg34, _, hor⟩ := run_append_own_at (P := Tryd.prog) _ w.heap.size 22 22 37 i0 _ 4 64 Tryd.underlying22 hi hz0 hz1 hz2 rfl (by decide) _ _ _ hO30 ⟨w29.heap.size, 0, none⟩ 1 1 (tkCells [(⟨kd, n0, as0, t0⟩, .slice a29 as0.length c29)]) rfl (by have := cells_new (w29.setCell ⟨wr.heap.size, 2, none⟩ (.slice a29 as0.length c29)) (tkCells [(⟨kd, n0, as0, t0⟩, .slice a29 as0.length c29)]) 37; rw [hsz30] at this; exact this) oneN (by unfold maxLen; omega) (by omega) (by have := hB30.size; omega)
      replace hrun29 := Lib.hid hrun29
      replace hrun34 := Lib.hid hrun34
      replace hsz30 := Lib.hid hsz30
      clear hO30
      have tok1 := Lib.hid True.intro
      go_wp2_with (first
        | (have m0 := tok1.out; at_builtin; refine wpList_append_run _ w29 rfl _ _ 35 rfl _ _ _ rfl rfl hrun29.out ?_
           clear tok1 m0
           have tok2 := Lib.hid True.intro)
        | (have m0 := tok2.out; at_builtin; refine wpList_append_run _ w34 rfl _ _ 22 rfl _ _ _ rfl rfl hrun34.out ?_
           clear tok2 m0))
      have hB34 : Below wr.heap.size wr ((w29.setCell ⟨wr.heap.size, 2, none⟩ (.slice a29 as0.length c29)).alloc (.cells #[.int .u8 kd, .string ⟨n0.toArray⟩, .slice a29 as0.length c29, .string ⟨t0.toArray⟩] 37)) := hB30
      have hown : ∀ g, u7.ownBlock = some g → g < wr.heap.size := fun g hg => (hO.out.lt g hg).2
      have hs30 := hB30.size
      have hs29 : wr.heap.size + 2 ≤ w29.heap.size := by have := hb29.size; simpa using this
      have hX' : ∀ (q : Value) (aa : Ats), AtX (fun b => some b ≠ u7.ownBlock ∧ w.heap.size ≤ b) ((w29.setCell ⟨wr.heap.size, 2, none⟩ (.slice a29 as0.length c29)).alloc (.cells #[.int .u8 kd, .string ⟨n0.toArray⟩, .slice a29 as0.length c29, .string ⟨t0.toArray⟩] 37)) q aa → AtX (fun b => ¬ some b = v34.ownBlock ∧ w.heap.size ≤ b) w34 q aa := fun q aa h => by
        refine AtX.mono2 (AtX.keep (AtX.mono2 h (ok' := fun b => (some b ≠ u7.ownBlock ∧ w.heap.size ≤ b) ∧ b < ((w29.setCell ⟨wr.heap.size, 2, none⟩ (.slice a29 as0.length c29)).alloc (.cells #[.int .u8 kd, .string ⟨n0.toArray⟩, .slice a29 as0.length c29, .string ⟨t0.toArray⟩] 37)).heap.size) (fun b hb hk => ⟨hk, hb⟩)) hg34.size (fun b hb hk => hg34.block b hb hk.1.1)) (fun b hb hk => ⟨?_, hk.1.2⟩)
        rcases hor with e | e
        · rw [e]; exact hk.1.1
        · rw [e]; intro e'; injection e' with e'; have := hk.2; omega
      refine ⟨⟨k + 1, by omega, by omega, ps ++ [(⟨kd, n0, as0, t0⟩, .slice a29 as0.length c29)], ?_, Lib.hid ?_, Lib.hid (fun ta tv hp => ?_), Lib.hid ?_⟩, by simp [intOf]; omega⟩
      · rw [List.map_append, hpm.out, List.take_succ_eq_append_getElem hlt, htk.out]; rfl
      · have : tkCells (ps ++ [(⟨kd, n0, as0, t0⟩, .slice a29 as0.length c29)]) = tkCells ps ++ tkCells [(⟨kd, n0, as0, t0⟩, .slice a29 as0.length c29)] := by simp [tkCells]
        rw [this]
        exact hO34
      · rcases List.mem_append.1 hp with hp | hp
        · exact hX' _ _ (AtX.keep (hX.out _ hp) hB30.size (fun b hb _ => hB30.block b hb))
        · obtain ⟨rfl, rfl⟩ : ta = ⟨kd, n0, as0, t0⟩ ∧ tv = .slice a29 as0.length c29 := by simpa using hp
          refine hX' _ _ (AtX.keep (AtX.mono2 hX29 (ok' := fun b => (some b ≠ u7.ownBlock ∧ w.heap.size ≤ b) ∧ b ≠ wr.heap.size) (fun b hb hk => ⟨⟨fun e => by have := hown b e.symm; omega, by omega⟩, by omega⟩)) (by simp) (fun b hb hk => ?_) |>.mono (fun b h => h.1))
          rw [(heap_alloc _ _).2 b (by rw [hsz30.out]; exact hb)]
          exact Below.heap_setCell _ _ _ _ hk.2
      · exact (BW.out.trans (hB30.mono hsz)).grown hg34 (by omega) (fun g hg => (hO.out.lt g hg).1)
    · have hke : k = tks.length := by omega
      subst hke
      have hfull : tks.take tks.length = tks := List.take_length
      have hO40 := owns_keep2 hO.out (below1 wr (.cells #[.int .u8 2, .string ⟨name.toArray⟩, .slice none 0 0, .string ⟨#[]⟩] 37)).block
      have oneE := tkCells_one [(⟨2, name, [], []⟩, .slice none 0 0)] (by intro p hp; rw [List.mem_singleton.1 hp]; exact ⟨_, _, _, rfl⟩)
      obtain ⟨v40, w40, hrun40, hOe, hg40, _, hor⟩ := run_append_own_at (P := Tryd.prog) _ w.heap.size 22 22 37 i0 _ 4 64 Tryd.underlying22 hi hz0 hz1 hz2 rfl (by decide) _ _ _ hO40 ⟨wr.heap.size, 0, none⟩ 1 1 (tkCells [(⟨2, name, [], []⟩, .slice none 0 0)]) rfl (cells_new wr (tkCells [(⟨2, name, [], []⟩, .slice none 0 0)]) 37) oneE (by unfold maxLen; omega) (by omega) (by have := (below1 wr (.cells #[.int .u8 2, .string ⟨name.toArray⟩, .slice none 0 0, .string ⟨#[]⟩] 37)).size; omega)
      replace hrun40 := Lib.hid hrun40
      clear hO40
      go_wp2_with (at_builtin; refine wpList_append_run _ w40 rfl _ _ 22 rfl _ _ _ rfl rfl hrun40.out ?_)
      go_ret
      refine ⟨_, rfl, ?_, (BW.out.alloc hsz _).grown hg40 (by simp; omega) (fun g hg => (hO.out.lt g hg).1)⟩
      have hpl : ps.length = tks.length + 1 := by rw [← List.length_map (f := (·.1)), hpm.out, hfull]; simp
      have e : tkCells (ps ++ [(⟨2, name, [], []⟩, .slice none 0 0)]) = tkCells ps ++ tkCells [(⟨2, name, [], []⟩, .slice none 0 0)] := by simp [tkCells]
      rw [← e] at hOe
      intro W hs1 hs2
      have := owns_tks (owns_keep hOe hs2) (by rw [List.length_append, hpl]; rfl) (fun p hp => by
        rcases List.mem_append.1 hp with hp | hp
        · exact (AtX.keep (AtX.keep (AtX.mono2 (hX.out _ hp) (ok' := fun b => some b ≠ u7.ownBlock ∧ w.heap.size ≤ b) (fun b _ h => h)) (Nat.le_trans (below1 wr _).size hg40.size) (fun b hb hk => (hg40.block b (Nat.lt_of_lt_of_le hb (below1 wr _).size) hk.1).trans ((below1 wr _).block b hb))) hs1 (fun b hb hk => hs2 b hk.2 hb)).at
        · rw [List.mem_singleton.1 hp]
          exact ⟨none, 0, rfl, by simp, by simp, fun h => absurd h (by simp)⟩)
      rw [List.map_append, hpm.out, hfull] at this
      exact this
theorem refElementS_any (name : List UInt8) (sv iv : Value) (al : Ats) (tks : List Tk) (w : World) (hA : AtS w sv al) (hal : al.length * 32 ≤ 140737488351232) (hT : TkS w iv tks) (htl : tks.length ≤ 1000) (hat : ∀ tk ∈ tks, tk.as.length * 32 ≤ 140737488351232) :
    Calls Tryd.prog 14 #[.string ⟨name.toArray⟩, sv, iv] w fun e w' => ∃ v, e = .returned v ∧ TkS w' v (elemL name al tks) ∧ Below w.heap.size w w' :=
  (refElement_any name sv iv al tks w hA hal hT htl hat).mono fun _ _ ⟨v, h1, h2, h3⟩ => ⟨v, h1, h2.tks, h3⟩
end Go.Proofs.YtcfkegfddiglcaaDoor
