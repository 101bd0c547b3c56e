/-
  An element's tokens (write.Element), walked. Conditions: at most 1000 tokens; each slice of attributes takes at most 2^47 bytes.
-/
import Derived.Test.YtjpdadibeocpfaaDoorWrElem2
import Derived.Deep.Upon
namespace Go.Proofs.YtjpdadibeocpfaaDoor
set_option linter.unusedVariables false
set_option linter.unusedSimpArgs false
open Go.RowKit Go.MapKept
/-- P4.2 -/
def elemL (name : List UInt8) (al : Ats) (tks : List Tk) : List Tk := ⟨1, name, al, []⟩ :: (tks ++ [⟨2, name, [], []⟩])
theorem cells_new (w : World) (xs : List Value) (t : TypeId) : ∀ j u, xs[j]? = some u → (w.alloc (.cells xs.toArray t)).cell? ((⟨w.heap.size, 0, none⟩ : Addr).add j) = some u := by
  intro j u h
  rw [Addr.add_lit, Nat.zero_add, World.cell?_alloc_new]
  simpa using h
theorem owns_val {w : World} {base : Nat} {e : TypeId} {size : Nat} {v : Value} {n : Nat} {xs : List Value} (h : w.ownsRow base e size v n xs) : ∃ a c, v = .slice a n c := by
  rcases h.2 with ⟨hv, h0⟩ | ⟨g, cap, cur, hv, _⟩
  · exact ⟨_, _, by rw [hv, h0]⟩
  · exact ⟨_, _, hv⟩
theorem nothing_src {P : Program} (w : World) (t ty e : TypeId) (i : TypeInfo) (ht : P.underlying t = some (.slice e)) (hi : P.info? e = some i) (a : Option Addr) (n c c' : Nat) (h : n ≤ c) : (Builtin.append_ #[t, t] ty #[.slice a n c, .slice none 0 c']).run P w = .ok (.slice a n c) w :=
  run_append_nothing w t t ty e i ht hi a n c h _ (Src.ofNil w ht c')
theorem owns_le {w : World} {base : Nat} {e : TypeId} {size n c : Nat} {a : Option Addr} {xs : List Value} (h : w.ownsRow base e size (.slice a n c) n xs) : n ≤ c := by
  rcases h.2 with ⟨hv, h0⟩ | ⟨g, cap, cur, hv, _, _, h1, _⟩
  · omega
  · injection hv with _ _ h3
    omega
theorem wpList_append_same {P : Program} (w : World) {ops : Array Oper} {rest : List Oper} {o : Oper} {a : Act} {Q : Exit → Act → World → Prop} (hgd : o.guard = none) (s x : Operand) (t : TypeId)
    (ho : o.op = .call { callee := .builtin .append, args := #[s, x], argTypes := #[t, t] }) (v u : Value) (hs : a.eval s = v) (hx : a.eval x = u)
    (hrun : (Builtin.append_ #[t, t] o.type #[v, u]).run P w = .ok v w) (h : wpList P ops Q rest (a.put o.dst v) w) : wpList P ops Q (o :: rest) a w := by
  refine wpList_plain hgd fun K hK => ?_
  unfold Oper.wp execOp
  simp only [ho, resolve, invoke, builtin, Sem.run_bind, Sem.run_pure, Result.andThen_ok, List.map_toArray, List.map_cons, List.map_nil, hs, hx, hrun]
  exact hK _ _ h
theorem owns_keep2 {w w' : World} {base : Nat} {e : TypeId} {size : Nat} {v : Value} {n : Nat} {xs : List Value} (h : w.ownsRow base e size v n xs) (hk : ∀ g, g < w.heap.size → w'.heap[g]? = w.heap[g]?) : w'.ownsRow base e size v n xs := by
  refine ⟨h.1, ?_⟩
  rcases h.2 with h2 | ⟨g, cap, cur, h1, h2, h3, h4⟩
  · exact .inl h2
  · exact .inr ⟨g, cap, cur, h1, h2, (hk g (Array.getElem?_eq_some_iff.1 h3).1).trans h3, h4⟩
theorem cell_lt {w : World} {a : Addr} {u : Value} (h : w.cell? a = some u) : a.block < w.heap.size := by
  rcases Nat.lt_or_ge a.block w.heap.size with h' | h'
  · exact h'
  · simp [World.cell?, Array.getElem?_eq_none h'] at h
theorem owns_head {w : World} {base : Nat} {e : TypeId} {size : Nat} {v : Value} {n : Nat} {xs : List Value} (h : w.ownsRow base e size v n xs) (hn : 0 < n) : ∃ g c, v = .slice (some ⟨g, 0, none⟩) n c ∧ base ≤ g ∧ g < w.heap.size := by
  rcases h.2 with ⟨_, h0⟩ | ⟨g, cap, cur, hv, hb, hg, _⟩
  · omega
  · exact ⟨g, cap, hv, hb, (Array.getElem?_eq_some_iff.1 hg).1⟩
theorem owns_frozen {w : World} {base : Nat} {e : TypeId} {size g c n : Nat} {xs : List Value} (h : w.ownsRow base e size (.slice (some ⟨g, 0, none⟩) n c) n xs) (j : Nat) : w.frozen? ⟨g, j, none⟩ = false := by
  rcases h.2 with ⟨hv, _⟩ | ⟨g', cap, cur, hv, hb, hg, _⟩
  · cases hv
  · injection hv with h1
    injection h1 with h1
    injection h1 with h1 _ _
    subst h1
    simp [World.frozen?, hg]
/-- tokens that lie in blocks from n on alone: whatever changes elsewhere, they stay -/
def TkF (n : Nat) (w : World) (v : Value) (l : List Tk) : Prop := ∀ W : World, w.heap.size ≤ W.heap.size → (∀ b, n ≤ b → b < w.heap.size → W.heap[b]? = w.heap[b]?) → TkS W v l
theorem TkF.tks {n : Nat} {w : World} {v : Value} {l : List Tk} (h : TkF n w v l) : TkS w v l := h w (Nat.le_refl _) (fun _ _ _ => rfl)
theorem TkF.mono {n m : Nat} {w : World} {v : Value} {l : List Tk} (h : TkF n w v l) (hm : m ≤ n) : TkF m w v l := fun W h1 h2 => h W h1 (fun b hb hb' => h2 b (by omega) hb')
theorem TkF.keep {n : Nat} {w w' : World} {v : Value} {l : List Tk} (h : TkF n w v l) (hs : w.heap.size ≤ w'.heap.size) (hb : ∀ b, n ≤ b → b < w.heap.size → w'.heap[b]? = w.heap[b]?) : TkF n w' v l := fun W h1 h2 => h W (Nat.le_trans hs h1) (fun b h3 h4 => (h2 b h3 (by omega)).trans (hb b h3 h4))
set_option maxHeartbeats 4000000 in
theorem element_any (name : List UInt8) (sv iv : Value) (al : Ats) (tks : List Tk) (w : World) (hA : AtS w sv al) (hal : al.length * 32 ≤ 140737488351232) (hT : TkS w iv tks) (htl : tks.length ≤ 1000) (hat : ∀ tk ∈ tks, tk.as.length * 32 ≤ 140737488351232) :
    Calls Tryd.prog 9 #[.string ⟨name.toArray⟩, sv, iv] w fun e w' => ∃ v, e = .returned v ∧ TkS w' v (elemL name al tks) ∧ Below w.heap.size w w' := by
  obtain ⟨i0, hi, hz0, hz1, hz2⟩ := info_parts infoT
  obtain ⟨ps0, hps, hpa, hsrc⟩ := hT.pairs
  obtain ⟨w1, hmk, hO0, hg0⟩ := run_make_own (P := Tryd.prog) w w.heap.size 25 35 i0 _ 4 Tryd.underlying25 hi hz0 hz1 .i64 .i64 (tks.length + 2) (by rw [hz2]; omega) (by unfold maxLen; omega) (Nat.le_refl _)
  obtain ⟨svp, svc, rfl⟩ : ∃ a c, sv = .slice a al.length c := by obtain ⟨a, c, h, -⟩ := hA; exact ⟨a, c, h⟩
  obtain ⟨ivp, ivc, rfl⟩ : ∃ a c, iv = .slice a tks.length c := by obtain ⟨a, c, h, -⟩ := hT; exact ⟨a, c, h⟩
  have hlen : ps0.length = tks.length := by rw [← hps, List.length_map]
  have hs1 := hg0.size
  rw [show ((tks.length + 2 : Nat) : Int) = (tks.length : Int) + 2 from by omega] at hmk
  have hO0' := hO0.alloc (.cells #[.int .u8 1, .string ⟨name.toArray⟩, .slice svp al.length svc, .string ⟨#[]⟩] 35)
  have one1 := tkCells_one [(⟨1, name, al, []⟩, .slice svp al.length svc)] (by intro p hp; rw [List.mem_singleton.1 hp]; exact ⟨_, _, _, rfl⟩)
  have one2 := tkCells_one [(⟨2, name, [], []⟩, .slice none 0 0)] (by intro p hp; rw [List.mem_singleton.1 hp]; exact ⟨_, _, _, rfl⟩)
  have one0 := tkCells_one ps0 (by intro p hp; obtain ⟨a, c, h, -⟩ := hpa p hp; exact ⟨_, _, _, h⟩)
  obtain ⟨PS, hPS⟩ : ∃ PS : List (Tk × Value), PS = (⟨1, name, al, []⟩, .slice svp al.length svc) :: (ps0 ++ [(⟨2, name, [], []⟩, .slice none 0 0)]) := ⟨_, rfl⟩
  have hPSm : PS.map (·.1) = elemL name al tks := by rw [hPS]; simp [elemL, hps]
  have hPSc : tkCells PS = tkCells [(⟨1, name, al, []⟩, .slice svp al.length svc)] ++ tkCells ps0 ++ tkCells [(⟨2, name, [], []⟩, .slice none 0 0)] := by rw [hPS]; simp [tkCells]
  have hPSa : ∀ p ∈ PS, AtX (fun b => b < w.heap.size) w p.2 p.1.as := by
    intro p hp
    rw [hPS] at hp
    rcases List.mem_cons.1 hp with rfl | hp
    · exact hA.x
    · rcases List.mem_append.1 hp with hp | hp
      · exact (hpa p hp).x
      · rw [List.mem_singleton.1 hp]
        exact ⟨none, 0, rfl, Nat.le_refl _, by simp, fun h => absurd h (by simp)⟩
  obtain ⟨N, hNN⟩ : ∃ N, 1 + tks.length + 1 = N := ⟨_, rfl⟩
  have hLN : (elemL name al tks).length = N := by simp [elemL]; omega
  have hbound : ∀ tk ∈ elemL name al tks, tk.as.length * 32 ≤ 140737488351232 := by
    intro tk htk
    simp only [elemL, List.mem_cons, List.mem_append, List.mem_nil_iff, or_false] at htk
    rcases htk with rfl | h | rfl
    · exact hal
    · exact hat tk h
    · simp
  clear hPS
  replace hPSm := Lib.hid hPSm
  replace hPSc := Lib.hid hPSc
  replace hPSa := Lib.hid hPSa
  have hN1000 : N ≤ 1002 := by omega
  replace hNN := Lib.hid hNN
  replace hLN := Lib.hid hLN
  replace hbound := Lib.hid hbound
  replace hps := Lib.hid hps
  replace hlen := Lib.hid hlen
  rcases hsrc with ⟨hv, hp0⟩ | ⟨ad, c0, hv, hsr⟩
  · have ht0 : tks.length = 0 := by rw [← hlen.out, hp0]; rfl
    have hN2 : Hid (1 + 1 = N) := Lib.hid (by rw [← hNN.out, ht0])
    replace ht0 := Lib.hid ht0
    have hvn : ivp = none := by rcases hv with h | ⟨c, h⟩ <;> (injection h)
    subst hvn
    clear hv
    go_enter Tryd.func9, Tryd.ntmps9
    go_wp2_with (first
      | (have m0 := m2; at_builtin; refine wpList_append_own _ rfl _ _ 25 rfl w.heap.size 35 i0 _ 4 64 Tryd.underlying25 hi hz0 hz1 hz2 rfl (by decide) _ _ _ rfl (hO2.alloc _) ⟨w2.heap.size, 0, none⟩ 1 1 (tkCells [(⟨2, name, [], []⟩, .slice none 0 0)]) rfl rfl (cells_new w2 _ _) one2 (by unfold maxLen; omega) (by omega) (by simp only [World.size_alloc]; omega) ?_
         intro v4 w4 hO4 hg4 _
         have hb4 : Below w.heap.size w w4 := (hb2.alloc hs2 _).grown hg4 (by simp only [World.size_alloc]; omega) (fun k hk => (hO2.lt k hk).1)
         replace hO4 : w4.ownsRow w.heap.size 35 4 v4 N (tkCells PS) := by rw [hPSc.out, hp0, show tkCells [] = [] from rfl, List.append_nil]; exact hN2.out ▸ hO4
         obtain ⟨g, c4, rfl, hg, hgs⟩ := owns_head hO4 (by have := hNN.out; omega))
      | (have m0 := m1; at_builtin; refine wpList_append_same _ rfl _ _ 25 rfl _ _ rfl rfl (hnil _) ?_
         have m2 := True.intro)
      | (at_builtin; refine wpList_append_own _ rfl _ _ 25 rfl w.heap.size 35 i0 _ 4 64 Tryd.underlying25 hi hz0 hz1 hz2 rfl (by decide) _ _ _ rfl hO0' ⟨w1.heap.size, 0, none⟩ 1 1 (tkCells [(⟨1, name, al, []⟩, .slice svp al.length svc)]) rfl rfl (cells_new w1 _ _) one1 (by unfold maxLen; omega) (by omega) (by simp only [World.size_alloc]; omega) ?_
         intro v2 w2 hO2 hg2 _
         rw [List.nil_append, Nat.zero_add] at hO2
         obtain ⟨a2, c2, rfl⟩ := owns_val hO2
         have hb2 : Below w.heap.size w w2 := (((Below.refl w.heap.size w).grown hg0 (Nat.le_refl _) (fun _ e => by cases e)).alloc hs1 _).grown hg2 (by simp only [World.size_alloc]; omega) (fun k hk => by cases hk; exact Nat.le_refl _)
         have hs2 := hb2.size
         have hnil : ∀ W : World, (Builtin.append_ #[25, 25] 25 #[.slice a2 1 c2, .slice none tks.length ivc]).run Tryd.prog W = .ok (.slice a2 1 c2) W := fun W => by rw [ht0.out]; exact nothing_src (P := Tryd.prog) W 25 25 35 i0 Tryd.underlying25 hi a2 1 c2 ivc (owns_le hO2)
         have m1 := True.intro))
    go_loopw [28] (fun i wr => ∃ (k : Nat) (ps : List (Tk × Value)), k ≤ N ∧ i = .int .i64 k ∧ ps.map (·.1) = elemL name al tks ∧ Hid (wr.ownsRow w.heap.size 35 4 (.slice (some ⟨g, 0, none⟩) N c4) N (tkCells ps)) ∧ Hid (∀ p ∈ ps, AtX (fun b => b ≠ g) wr p.2 p.1.as) ∧ Hid (Below w.heap.size w wr)) (fun i _ => N - (intOf i).toNat)
    case atStart =>
      refine ⟨0, PS, Nat.zero_le _, rfl, hPSm.out, hO4, ?_, hb4⟩
      intro p hp
      refine AtX.mono (ok := fun b => b < w.heap.size) ?_ (fun b hb => by omega)
      exact AtX.keep (hPSa.out p hp) hb4.size (fun b hb _ => hb4.block b hb)
    case round =>
      obtain ⟨k, ps, hk, rfl, hpm, hO, hX, hB⟩ := hrel
      have hpl : ps.length = N := by rw [← List.length_map (f := (·.1)), hpm, hLN.out]
      by_cases hlt : k < N
      · have hlt' : k < ps.length := by omega
        have hgl : g < wr.heap.size := ((hO.out.lt g rfl).2)
        have hxk := hX.out ps[k] (List.getElem_mem hlt')
        have hbd : ps[k].1.as.length * 32 ≤ 140737488351232 := by
          refine hbound.out ps[k].1 ?_
          rw [← hpm]
          exact List.mem_map.2 ⟨ps[k], List.getElem_mem hlt', rfl⟩
        have c2k : wr.cell? ⟨g, k * 4 + 2, none⟩ = some ps[k].2 := by
          have := World.ownsRow.cells hO.out (g := g) rfl (k * 4 + 2) ps[k].2 (by rw [tkCells_get ps k hlt' 2 (by omega)]; rfl)
          rwa [Addr.add_lit, Nat.zero_add] at this
        have f2k := owns_frozen hO.out (k * 4 + 2)
        have hset := tkCells_set ps k hlt'
        obtain ⟨pv, hpv⟩ : ∃ z, ps[k].2 = z := ⟨_, rfl⟩
        rw [hpv] at hxk c2k
        obtain ⟨pp, pc, hsh⟩ : ∃ a c, pv = .slice a ps[k].1.as.length c := by obtain ⟨a, c, h, -⟩ := hxk; exact ⟨a, c, h⟩
        subst hsh
        have hcl := clone_any _ _ _ hxk.at hbd
        go_wp2_with (go_at_call 23; refine hcl.mono ?_; rintro e w5 ⟨sv', rfl, hX5, hb5⟩; have c5 := ((bat hb5 g hgl).1 (k * 4 + 2)).trans c2k; have f5 := ((bat hb5 g hgl).2 (k * 4 + 2)).trans f2k; obtain ⟨sp, sc, hsv⟩ : ∃ a c, sv' = .slice a ps[k].1.as.length c := by obtain ⟨a, c, h, -⟩ := hX5; exact ⟨a, c, h⟩
                     subst hsv)
        go_roundw
        case rel =>
          have hO6 := owns_set (j := k * 4 + 2) (.slice sp ps[k].1.as.length sc) (owns_keep2 hO.out (fun b hb => hb5.block b hb)) (by omega)
          rw [← hset] at hO6
          have hother : ∀ b, b ≠ g → (w5.setCell ⟨g, k * 4 + 2, none⟩ (.slice sp ps[k].1.as.length sc)).heap[b]? = w5.heap[b]? := fun b hb => Below.heap_setCell _ _ _ _ hb
          have hsz6 : (w5.setCell ⟨g, k * 4 + 2, none⟩ (.slice sp ps[k].1.as.length sc)).heap.size = w5.heap.size := by simp [World.setCell]
          refine ⟨k + 1, ps.set k (ps[k].1, .slice sp ps[k].1.as.length sc), by omega, by go_num, ?_, hO6, ?_, (belowT hB hb5).setCell (p := ⟨g, k * 4 + 2, none⟩) hg _⟩
          · rw [← hpm, List.map_set]
            apply List.ext_getElem
            · simp
            · intro i h1 h2
              rw [List.getElem_set]
              split
              · rename_i e; subst e; simp
              · rfl
          · intro p hp
            rcases List.mem_or_eq_of_mem_set hp with hp | rfl
            · refine AtX.keep (hX.out p hp) (by rw [hsz6]; exact hb5.size) (fun b hb hbg => (hother b hbg).trans (hb5.block b hb))
            · refine AtX.keep (AtX.mono hX5 (fun b hb => by omega)) (by rw [hsz6]; exact Nat.le_refl _) (fun b hb hbg => hother b hbg)
        case measure => simp [intOf]; omega
      · have hkN : k = N := by omega
        go_wp2
        go_ret
        refine ⟨_, rfl, ?_, hB⟩
        rw [← hpm]
        exact owns_tks hO.out hpl.symm (fun p hp => (hX.out p hp).at)
  · injection hv with hv1 hv2 hv3; clear hv2 hv3
    subst hv1
    go_enter Tryd.func9, Tryd.ntmps9
    go_wp2_with (first
      | (have m0 := m2; at_builtin; refine wpList_append_own _ rfl _ _ 25 rfl w.heap.size 35 i0 _ 4 64 Tryd.underlying25 hi hz0 hz1 hz2 rfl (by decide) _ _ _ rfl (hO3.alloc _) ⟨w3.heap.size, 0, none⟩ 1 1 (tkCells [(⟨2, name, [], []⟩, .slice none 0 0)]) rfl rfl (cells_new w3 _ _) one2 (by unfold maxLen; omega) (by omega) (by simp only [World.size_alloc]; omega) ?_
         intro v4 w4 hO4 hg4 _
         have hb4 : Below w.heap.size w w4 := (hb3.alloc hs3 _).grown hg4 (by simp only [World.size_alloc]; omega) (fun k hk => (hO3.lt k hk).1)
         replace hO4 : w4.ownsRow w.heap.size 35 4 v4 N (tkCells PS) := by rw [hPSc.out]; exact hNN.out ▸ hO4
         obtain ⟨g, c4, rfl, hg, hgs⟩ := owns_head hO4 (by have := hNN.out; omega))
      | (have m0 := m1; at_builtin; refine wpList_append_own _ rfl _ _ 25 rfl w.heap.size 35 i0 _ 4 64 Tryd.underlying25 hi hz0 hz1 hz2 rfl (by decide) _ _ _ rfl hO2 ad tks.length ivc (tkCells ps0) rfl (by rw [tkCells_len, hlen.out]) (fun j u hj => (hb2.cell (cell_lt (hsr j u hj))).trans (hsr j u hj)) one0 (by unfold maxLen; omega) (by omega) (by omega) ?_
         intro v3 w3 hO3 hg3 _
         have hb3 : Below w.heap.size w w3 := hb2.grown hg3 (by omega) (fun k hk => (hO2.lt k hk).1)
         have hs3 := hb3.size
         have m2 := True.intro)
      | (at_builtin; refine wpList_append_own _ rfl _ _ 25 rfl w.heap.size 35 i0 _ 4 64 Tryd.underlying25 hi hz0 hz1 hz2 rfl (by decide) _ _ _ rfl hO0' ⟨w1.heap.size, 0, none⟩ 1 1 (tkCells [(⟨1, name, al, []⟩, .slice svp al.length svc)]) rfl rfl (cells_new w1 _ _) one1 (by unfold maxLen; omega) (by omega) (by simp only [World.size_alloc]; omega) ?_
         intro v2 w2 hO2 hg2 _
         rw [List.nil_append, Nat.zero_add] at hO2
         obtain ⟨a2, c2, rfl⟩ := owns_val hO2
         have hb2 : Below w.heap.size w w2 := (((Below.refl w.heap.size w).grown hg0 (Nat.le_refl _) (fun _ e => by cases e)).alloc hs1 _).grown hg2 (by simp only [World.size_alloc]; omega) (fun k hk => by cases hk; exact Nat.le_refl _)
         have hs2 := hb2.size
         have m1 := True.intro))
    go_loopw [28] (fun i wr => ∃ (k : Nat) (ps : List (Tk × Value)), k ≤ N ∧ i = .int .i64 k ∧ ps.map (·.1) = elemL name al tks ∧ Hid (wr.ownsRow w.heap.size 35 4 (.slice (some ⟨g, 0, none⟩) N c4) N (tkCells ps)) ∧ Hid (∀ p ∈ ps, AtX (fun b => b ≠ g) wr p.2 p.1.as) ∧ Hid (Below w.heap.size w wr)) (fun i _ => N - (intOf i).toNat)
    case atStart =>
      refine ⟨0, PS, Nat.zero_le _, rfl, hPSm.out, hO4, ?_, hb4⟩
      intro p hp
      refine AtX.mono (ok := fun b => b < w.heap.size) ?_ (fun b hb => by omega)
      exact AtX.keep (hPSa.out p hp) hb4.size (fun b hb _ => hb4.block b hb)
    case round =>
      obtain ⟨k, ps, hk, rfl, hpm, hO, hX, hB⟩ := hrel
      have hpl : ps.length = N := by rw [← List.length_map (f := (·.1)), hpm, hLN.out]
      by_cases hlt : k < N
      · have hlt' : k < ps.length := by omega
        have hgl : g < wr.heap.size := ((hO.out.lt g rfl).2)
        have hxk := hX.out ps[k] (List.getElem_mem hlt')
        have hbd : ps[k].1.as.length * 32 ≤ 140737488351232 := by
          refine hbound.out ps[k].1 ?_
          rw [← hpm]
          exact List.mem_map.2 ⟨ps[k], List.getElem_mem hlt', rfl⟩
        have c2k : wr.cell? ⟨g, k * 4 + 2, none⟩ = some ps[k].2 := by
          have := World.ownsRow.cells hO.out (g := g) rfl (k * 4 + 2) ps[k].2 (by rw [tkCells_get ps k hlt' 2 (by omega)]; rfl)
          rwa [Addr.add_lit, Nat.zero_add] at this
        have f2k := owns_frozen hO.out (k * 4 + 2)
        have hset := tkCells_set ps k hlt'
        obtain ⟨pv, hpv⟩ : ∃ z, ps[k].2 = z := ⟨_, rfl⟩
        rw [hpv] at hxk c2k
        obtain ⟨pp, pc, hsh⟩ : ∃ a c, pv = .slice a ps[k].1.as.length c := by obtain ⟨a, c, h, -⟩ := hxk; exact ⟨a, c, h⟩
        subst hsh
        have hcl := clone_any _ _ _ hxk.at hbd
        go_wp2_with (go_at_call 23; refine hcl.mono ?_; rintro e w5 ⟨sv', rfl, hX5, hb5⟩; have c5 := ((bat hb5 g hgl).1 (k * 4 + 2)).trans c2k; have f5 := ((bat hb5 g hgl).2 (k * 4 + 2)).trans f2k; obtain ⟨sp, sc, hsv⟩ : ∃ a c, sv' = .slice a ps[k].1.as.length c := by obtain ⟨a, c, h, -⟩ := hX5; exact ⟨a, c, h⟩
                     subst hsv)
        go_roundw
        case rel =>
          have hO6 := owns_set (j := k * 4 + 2) (.slice sp ps[k].1.as.length sc) (owns_keep2 hO.out (fun b hb => hb5.block b hb)) (by omega)
          rw [← hset] at hO6
          have hother : ∀ b, b ≠ g → (w5.setCell ⟨g, k * 4 + 2, none⟩ (.slice sp ps[k].1.as.length sc)).heap[b]? = w5.heap[b]? := fun b hb => Below.heap_setCell _ _ _ _ hb
          have hsz6 : (w5.setCell ⟨g, k * 4 + 2, none⟩ (.slice sp ps[k].1.as.length sc)).heap.size = w5.heap.size := by simp [World.setCell]
          refine ⟨k + 1, ps.set k (ps[k].1, .slice sp ps[k].1.as.length sc), by omega, by go_num, ?_, hO6, ?_, (belowT hB hb5).setCell (p := ⟨g, k * 4 + 2, none⟩) hg _⟩
          · rw [← hpm, List.map_set]
            apply List.ext_getElem
            · simp
            · intro i h1 h2
              rw [List.getElem_set]
              split
              · rename_i e; subst e; simp
              · rfl
          · intro p hp
            rcases List.mem_or_eq_of_mem_set hp with hp | rfl
            · refine AtX.keep (hX.out p hp) (by rw [hsz6]; exact hb5.size) (fun b hb hbg => (hother b hbg).trans (hb5.block b hb))
            · refine AtX.keep (AtX.mono hX5 (fun b hb => by omega)) (by rw [hsz6]; exact Nat.le_refl _) (fun b hb hbg => hother b hbg)
        case measure => simp [intOf]; omega
      · have hkN : k = N := by omega
        go_wp2
        go_ret
        refine ⟨_, rfl, ?_, hB⟩
        rw [← hpm]
        exact owns_tks hO.out hpl.symm (fun p hp => (hX.out p hp).at)
end Go.Proofs.YtjpdadibeocpfaaDoor
