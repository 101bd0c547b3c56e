/-
  The walk of CollectDepth: a subscription of a collection reaches just so far down as its depth says. No condition.
-/
import Derived.Test.YtgodmppmiamhaaaFnDep
import Derived.Test.YtgodmppmiamhaaaCoLive
namespace Go.Proofs.Ytgodmppmiamhaaa
set_option linter.unusedVariables false
set_option linter.unusedSimpArgs false
open Go.RowKit Go.MapKept Go.Shelf
theorem conv_onx (W : World) (g : Nat) (c : UInt8) (h : W.heap[g]? = some (.cells #[.int .u8 (c.toNat : Int)] 5)) : (convert 25 9 (.slice (some ⟨g, 0, none⟩) 1 1)).run Try.prog W = .ok (.string ⟨#[c]⟩) W :=
  U8Row.back (xs := [c]) ⟨fun j hj => by obtain rfl : j = 0 := by simpa using hj
                                         simp [(obj_cells h).1], fun j hj => by obtain rfl : j = 0 := by simpa using hj
                                                                                simp [(obj_cells h).2.1]⟩ 25 9 5 Try.underlying25 Try.underlying5 Try.underlying9 1
theorem w8 (x : Int) (hx : 0 ≤ x) : IntKind.u8.wrap x = x % 256 := by simp [IntKind.wrap, IntKind.bits, IntKind.signed] <;> omega
theorem infoNd : ∃ i, Try.prog.info? 52 = some i ∧ i.zero = some (.agg #[.string ⟨#[]⟩, .bool false, .int .u8 0, .int .i64 0, .slice none 0 0, .slice none 0 0, .slice none 0 0, .string ⟨#[]⟩]) ∧ i.size = 8 ∧ i.bytes = 120 := by
  have h : (Try.prog.info? 52).map (fun i => (i.zero, i.size, i.bytes)) = some (some (.agg #[.string ⟨#[]⟩, .bool false, .int .u8 0, .int .i64 0, .slice none 0 0, .slice none 0 0, .slice none 0 0, .string ⟨#[]⟩]), 8, 120) := by kernel_rfl
  cases hi : Try.prog.info? 52 with
  | none => rw [hi] at h; cases h
  | some i => rw [hi] at h; simp only [Option.map_some, Option.some.injEq, Prod.mk.injEq] at h; exact ⟨i, rfl, h⟩
theorem cell_rowx (W : World) (cs : Array Value) (t : TypeId) (g : Nat) (hg : W.heap.size = g) : ∀ j u, cs.toList[j]? = some u → (W.alloc (.cells cs t)).cell? ((⟨g, 0, none⟩ : Addr).add j) = some u := fun j u hj => by
  subst hg
  rw [Addr.add_lit, (obj_cells (heap_alloc W _).1).1, Nat.zero_add]
  simpa using hj
/-- one row more -/
theorem dep_step {d f k : Nat} {w wr W4 w9 : World} {v v9 : Value} {ps : List (Nat × Value)} {p : Nat × Value} {o : Obj} (hO : wr.ownsRow w.heap.size 52 8 v k (rowsD d f 0 ps)) (hps : ps.length = k) (hRo : ∀ j (h : j < ps.length), RowOk d f wr j (ps[j]'h)) (hB : Below w.heap.size w wr)
    (hB4 : Below wr.heap.size wr W4) (hRow : RowOk d f W4 k p) (hg : (W4.alloc o).grownBy w9 v.ownBlock) (hO9 : w9.ownsRow w.heap.size 52 8 v9 (k + 1) (rowsD d f 0 ps ++ rowD d f k p)) :
    (ps ++ [p]).length = k + 1 ∧ w9.ownsRow w.heap.size 52 8 v9 (k + 1) (rowsD d f 0 (ps ++ [p])) ∧ (∀ j (h : j < (ps ++ [p]).length), RowOk d f w9 j ((ps ++ [p])[j]'h)) ∧ Below w.heap.size w w9 := by
  have hB5 : Below wr.heap.size wr (W4.alloc o) := belowA hB4 o
  have hO5 : (W4.alloc o).ownsRow w.heap.size 52 8 v k (rowsD d f 0 ps) := by
    refine ⟨hO.1, ?_⟩
    rcases hO.2 with h2 | ⟨g, cap, cur, h1, h2, h3, h4⟩
    · exact .inl h2
    · exact .inr ⟨g, cap, cur, h1, h2, (hB5.block g (Array.getElem?_eq_some_iff.1 h3).1).trans h3, h4⟩
  have hk := grown_kept hO5 hg
  refine ⟨by simp [hps], by rw [rowsD_snoc, hps, Nat.zero_add]; exact hO9, fun j h => ?_, (belowT hB hB5).grown hg (belowT hB hB5).size (fun j e => (hO5.lt j e).1)⟩
  rcases Nat.lt_or_ge j ps.length with hj | hj
  · rw [List.getElem_append_left hj]
    exact ((hRo j hj).kept (fun b cs t hb _ => hB5.block b (Array.getElem?_eq_some_iff.1 hb).1)).kept hk
  · have hj2 : j = ps.length := by rw [List.length_append] at h; simp at h; omega
    subst hj2
    rw [List.getElem_append_right (Nat.le_refl _)]
    simp only [Nat.sub_self, List.getElem_cons_zero, hps]
    exact (hRow.kept (fun b cs t hb _ => (World.grownBy_alloc W4 o none).block b (Array.getElem?_eq_some_iff.1 hb).1 (by simp))).kept hk
set_option maxRecDepth 100000 in
set_option maxHeartbeats 8000000 in
theorem collectDepth_go (p q : Nat) (w : World) (hp : p < 256) (hq : q < 256) :
    Calls Try.prog 9 #[.int .u8 p, .int .u8 q] w fun e w' => e = .returned (.bool true) ∧ Below w.heap.size w w' := by
  obtain ⟨d, hd⟩ : ∃ d, p % 12 = d := ⟨_, rfl⟩
  obtain ⟨f, hf⟩ : ∃ f, q % 10 = f := ⟨_, rfl⟩
  have hd12 : d < 12 := by omega
  have hf10 : f < 10 := by omega
  have m1 : (p : Int).tmod 12 = (d : Int) := by rw [Int.tmod_eq_emod_of_nonneg (by omega)]; omega
  have m2 : (q : Int).tmod 10 = (f : Int) := by rw [Int.tmod_eq_emod_of_nonneg (by omega)]; omega
  have m3 : (p : Int) % 12 = (d : Int) := by omega
  have m4 : (q : Int) % 10 = (f : Int) := by omega
  have m5 : IntKind.i64.wrap (d : Int) = (d : Int) := wrap_small _ (by omega) (by omega)
  have m6 : IntKind.i64.wrap (f : Int) = (f : Int) := wrap_small _ (by omega) (by omega)
  have m7 : IntKind.i64.wrap (p : Int) = (p : Int) := wrap_small _ (by omega) (by omega)
  have m8 : IntKind.i64.wrap (q : Int) = (q : Int) := wrap_small _ (by omega) (by omega)
  clear hd hf
  go_enter Try.func9, Try.ntmps9
  go_wp2
  go_loopw [7, 8] (fun s7 s8 wr => ∃ (k : Nat) (ps : List (Nat × Value)), k ≤ f + 1 ∧ s8 = .int .i64 k ∧ ps.length = k ∧ Hid (wr.ownsRow w.heap.size 52 8 s7 k (rowsD d f 0 ps)) ∧ Hid (∀ j (h : j < ps.length), RowOk d f wr j (ps[j]'h)) ∧ Hid (Below w.heap.size w wr)) (fun _ s8 _ => f + 1 - (intOf s8).toNat)
  case atStart => exact ⟨0, [], Nat.zero_le _, rfl, rfl, Lib.hid (World.ownsRow_nil _ _ _ _), Lib.hid (fun j h => absurd h (by simp)), Lib.hid (Below.refl _ _)⟩
  case round =>
    clear m1 m2 m3 m4 m5 m6 m7 m8
    obtain ⟨k, ps, hk, rfl, hps, hO, hRo, hB⟩ := hrel
    replace hps := Lib.hid hps
    by_cases hlt : k < f + 1
    · have hki : (k : Int) ≤ (f : Int) := by omega
      have b1 : IntKind.u8.wrap (k : Int) = (k : Int) := by rw [w8 _ (by omega)]; omega
      have b2 : IntKind.u8.wrap (97 + (k : Int)) = ((chU k).toNat : Int) := by rw [w8 _ (by omega), ch_small k (by omega)]; omega
      have b3 : IntKind.u8.wrap (((chU k).toNat : Int) + 1) = ((chU (k + 1)).toNat : Int) := by rw [w8 _ (by omega), ch_small k (by omega), ch_small (k + 1) (by omega)]; omega
      obtain ⟨na, nc, rfl⟩ := owns_shx hO.out
      have hc1 := conv_onx (wr.alloc (.cells #[.int .u8 ((chU k).toNat : Int)] 5)) wr.heap.size (chU k) (bare_nd _ _)
      by_cases hkf : k < f
      · have hkfi : (k : Int) < (f : Int) := by omega
        have hne : ((k : Int) == (f : Int)) = false := by simpa using fun e : (k : Int) = f => by omega
        have hc2 := conv_onx ((((wr.alloc (.cells #[.int .u8 ((chU k).toNat : Int)] 5)).alloc (.cells #[.string ⟨#[111, 64, 100]⟩, .int .u8 5] 46)).alloc (.cells #[.string ⟨#[chU k]⟩, .bool (decide (0 < k)), .int .u8 0, .int .i64 0, .slice (some ⟨wr.heap.size + 1, 0, none⟩) 1 1, .slice none 0 0, .slice none 0 0, .string ⟨#[]⟩] 52)).alloc (.cells #[.int .u8 ((chU (k + 1)).toNat : Int)] 5)) (wr.heap.size + 1 + 1 + 1) (chU (k + 1)) (by
          have := bare_nd (((wr.alloc (.cells #[.int .u8 ((chU k).toNat : Int)] 5)).alloc (.cells #[.string ⟨#[111, 64, 100]⟩, .int .u8 5] 46)).alloc (.cells #[.string ⟨#[chU k]⟩, .bool (decide (0 < k)), .int .u8 0, .int .i64 0, .slice (some ⟨wr.heap.size + 1, 0, none⟩) 1 1, .slice none 0 0, .slice none 0 0, .string ⟨#[]⟩] 52)) (.cells #[.int .u8 ((chU (k + 1)).toNat : Int)] 5)
          rwa [World.size_alloc, World.size_alloc, World.size_alloc] at this)
        obtain ⟨i0, hi0', hz0, hz1, hz2⟩ := infoNd
        obtain ⟨W4, hW4, hB4, hA4, hO4, hN4, hsz4⟩ : ∃ W4, ((((wr.alloc (.cells #[.int .u8 ((chU k).toNat : Int)] 5)).alloc (.cells #[.string ⟨#[111, 64, 100]⟩, .int .u8 5] 46)).alloc (.cells #[.string ⟨#[chU k]⟩, .bool (decide (0 < k)), .int .u8 0, .int .i64 0, .slice (some ⟨wr.heap.size + 1, 0, none⟩) 1 1, .slice none 0 0, .slice none 0 0, .string ⟨#[chU (k + 1)]⟩] 52)).alloc (.cells #[.int .u8 ((chU (k + 1)).toNat : Int)] 5)) = W4 ∧ Below wr.heap.size wr W4 ∧ W4.heap[wr.heap.size + 1]? = some (.cells #[.string ⟨#[111, 64, 100]⟩, .int .u8 5] 46 (0, 0)) ∧ W4.ownsRow w.heap.size 52 8 (.slice na k nc) k (rowsD d f 0 ps) ∧
            W4.heap[wr.heap.size + 1 + 1]? = some (.cells #[.string ⟨#[chU k]⟩, .bool (decide (0 < k)), .int .u8 0, .int .i64 0, .slice (some ⟨wr.heap.size + 1, 0, none⟩) 1 1, .slice none 0 0, .slice none 0 0, .string ⟨#[chU (k + 1)]⟩] 52 (0, 0)) ∧ W4.heap.size = wr.heap.size + 1 + 1 + 1 + 1 := by
          refine ⟨_, rfl, belowA (belowA (belowA (below1 _ _) _) _) _, ?_, (((hO.out.alloc _).alloc _).alloc _).alloc _, ?_, by simp only [World.size_alloc]⟩
          · refine obj_alloc (obj_alloc ?_)
            have := bare_nd (wr.alloc (.cells #[.int .u8 ((chU k).toNat : Int)] 5)) (.cells #[.string ⟨#[111, 64, 100]⟩, .int .u8 5] 46)
            rwa [World.size_alloc] at this
          · refine obj_alloc ?_
            have := bare_nd ((wr.alloc (.cells #[.int .u8 ((chU k).toNat : Int)] 5)).alloc (.cells #[.string ⟨#[111, 64, 100]⟩, .int .u8 5] 46)) (.cells #[.string ⟨#[chU k]⟩, .bool (decide (0 < k)), .int .u8 0, .int .i64 0, .slice (some ⟨wr.heap.size + 1, 0, none⟩) 1 1, .slice none 0 0, .slice none 0 0, .string ⟨#[chU (k + 1)]⟩] 52)
            rwa [World.size_alloc, World.size_alloc] at this
        have hrow : Hid (rowD d f k (wr.heap.size + 1, .slice none 0 0) = (#[.string ⟨#[chU k]⟩, .bool (decide (0 < k)), .int .u8 0, .int .i64 0, .slice (some ⟨wr.heap.size + 1, 0, none⟩) 1 1, .slice none 0 0, .slice none 0 0, .string ⟨#[chU (k + 1)]⟩] : Array Value).toList) := Lib.hid (by simp [rowD, ndC, ndD, hkf])
        have hRow4 : Hid (RowOk d f W4 k (wr.heap.size + 1, .slice none 0 0)) := Lib.hid ⟨hA4, .inl ⟨by omega, rfl⟩⟩
        obtain ⟨nc4, nf4, nl4⟩ := obj_cells hN4
        replace hO4 := Lib.hid (hO4.alloc (.cells #[.string ⟨#[chU k]⟩, .bool (decide (0 < k)), .int .u8 0, .int .i64 0, .slice (some ⟨wr.heap.size + 1, 0, none⟩) 1 1, .slice none 0 0, .slice none 0 0, .string ⟨#[chU (k + 1)]⟩] 52))
        have hsw := Lib.hid (Nat.le_trans hB.out.size hB4.size)
        replace hB4 := Lib.hid hB4
        replace hN4 := Lib.hid hN4
        replace hA4 := Lib.hid hA4
        replace hsz4 := Lib.hid hsz4
        replace hO := Lib.hid hO.out
        go_wp2_with (at_builtin; refine wpList_append_own _ rfl _ _ 43 rfl w.heap.size 52 i0 _ 8 120 Try.underlying43 hi0' hz0 hz1 hz2 rfl (by decide) _ _ _ rfl hO4.out ⟨W4.heap.size, 0, none⟩ 1 1 (#[.string ⟨#[chU k]⟩, .bool (decide (0 < k)), .int .u8 0, .int .i64 0, .slice (some ⟨wr.heap.size + 1, 0, none⟩) 1 1, .slice none 0 0, .slice none 0 0, .string ⟨#[chU (k + 1)]⟩] : Array Value).toList rfl rfl (cell_rowx W4 _ _ _ rfl) (by simp [Value.oneCell']) (by unfold maxLen; omega) (by omega) (by have := hsw.out; simp only [World.size_alloc]; omega) ?_
                     intro v9 w9 hO9 hg9 _
                     replace hO9 := Lib.hid hO9
                     replace hg9 := Lib.hid hg9)
        have hO9' := hO9.out
        rw [← hrow.out] at hO9'
        have hfin := Lib.hid (dep_step hO.out hps.out hRo.out hB.out hB4.out hRow4.out hg9.out hO9')
        go_roundw
        case rel => exact ⟨k + 1, ps ++ [(wr.heap.size + 1, .slice none 0 0)], by omega, by simp, hfin.out.1, Lib.hid hfin.out.2.1, Lib.hid hfin.out.2.2.1, Lib.hid hfin.out.2.2.2⟩
        case measure => simp [intOf]; omega
      · obtain rfl : k = f := by omega
        have hkfi : ¬ (k : Int) < (k : Int) := by omega
        obtain ⟨i0, hi0', hz0, hz1, hz2⟩ := infoNd
        obtain ⟨W4, hW4, hB4, hA4, hO4, hN4, hsz4, hS4⟩ : ∃ W4, ((((wr.alloc (.cells #[.int .u8 ((chU k).toNat : Int)] 5)).alloc (.cells #[.string ⟨#[111, 64, 100]⟩, .int .u8 5] 46)).alloc (.cells #[.string ⟨#[chU k]⟩, .bool (decide (0 < k)), .int .u8 0, .int .i64 0, .slice (some ⟨wr.heap.size + 1, 0, none⟩) 1 1, .slice (some ⟨wr.heap.size + 1 + 1 + 1, 0, none⟩) 1 1, .slice none 0 0, .string ⟨#[]⟩] 52)).alloc (.cells #[.string ⟨#[115, 64, 100]⟩, .bool false, .int .i64 (d : Int)] 54)) = W4 ∧ Below wr.heap.size wr W4 ∧ W4.heap[wr.heap.size + 1]? = some (.cells #[.string ⟨#[111, 64, 100]⟩, .int .u8 5] 46 (0, 0)) ∧ W4.ownsRow w.heap.size 52 8 (.slice na k nc) k (rowsD d k 0 ps) ∧
            W4.heap[wr.heap.size + 1 + 1]? = some (.cells #[.string ⟨#[chU k]⟩, .bool (decide (0 < k)), .int .u8 0, .int .i64 0, .slice (some ⟨wr.heap.size + 1, 0, none⟩) 1 1, .slice (some ⟨wr.heap.size + 1 + 1 + 1, 0, none⟩) 1 1, .slice none 0 0, .string ⟨#[]⟩] 52 (0, 0)) ∧ W4.heap.size = wr.heap.size + 1 + 1 + 1 + 1 ∧ W4.heap[wr.heap.size + 1 + 1 + 1]? = some (.cells #[.string ⟨#[115, 64, 100]⟩, .bool false, .int .i64 (d : Int)] 54 (0, 0)) := by
          refine ⟨_, rfl, belowA (belowA (belowA (below1 _ _) _) _) _, ?_, (((hO.out.alloc _).alloc _).alloc _).alloc _, ?_, by simp only [World.size_alloc], ?_⟩
          · refine obj_alloc (obj_alloc ?_)
            have := bare_nd (wr.alloc (.cells #[.int .u8 ((chU k).toNat : Int)] 5)) (.cells #[.string ⟨#[111, 64, 100]⟩, .int .u8 5] 46)
            rwa [World.size_alloc] at this
          · refine obj_alloc ?_
            have := bare_nd ((wr.alloc (.cells #[.int .u8 ((chU k).toNat : Int)] 5)).alloc (.cells #[.string ⟨#[111, 64, 100]⟩, .int .u8 5] 46)) (.cells #[.string ⟨#[chU k]⟩, .bool (decide (0 < k)), .int .u8 0, .int .i64 0, .slice (some ⟨wr.heap.size + 1, 0, none⟩) 1 1, .slice (some ⟨wr.heap.size + 1 + 1 + 1, 0, none⟩) 1 1, .slice none 0 0, .string ⟨#[]⟩] 52)
            rwa [World.size_alloc, World.size_alloc] at this
          · have := bare_nd (((wr.alloc (.cells #[.int .u8 ((chU k).toNat : Int)] 5)).alloc (.cells #[.string ⟨#[111, 64, 100]⟩, .int .u8 5] 46)).alloc (.cells #[.string ⟨#[chU k]⟩, .bool (decide (0 < k)), .int .u8 0, .int .i64 0, .slice (some ⟨wr.heap.size + 1, 0, none⟩) 1 1, .slice (some ⟨wr.heap.size + 1 + 1 + 1, 0, none⟩) 1 1, .slice none 0 0, .string ⟨#[]⟩] 52)) (.cells #[.string ⟨#[115, 64, 100]⟩, .bool false, .int .i64 (d : Int)] 54)
            rwa [World.size_alloc, World.size_alloc, World.size_alloc] at this
        have hrow : Hid (rowD d k k (wr.heap.size + 1, .slice (some ⟨wr.heap.size + 1 + 1 + 1, 0, none⟩) 1 1) = (#[.string ⟨#[chU k]⟩, .bool (decide (0 < k)), .int .u8 0, .int .i64 0, .slice (some ⟨wr.heap.size + 1, 0, none⟩) 1 1, .slice (some ⟨wr.heap.size + 1 + 1 + 1, 0, none⟩) 1 1, .slice none 0 0, .string ⟨#[]⟩] : Array Value).toList) := Lib.hid (by simp [rowD, ndC, ndD])
        have hRow4 : Hid (RowOk d k W4 k (wr.heap.size + 1, .slice (some ⟨wr.heap.size + 1 + 1 + 1, 0, none⟩) 1 1)) := Lib.hid ⟨hA4, .inr ⟨rfl, _, rfl, hS4⟩⟩
        obtain ⟨nc4, nf4, nl4⟩ := obj_cells hN4
        replace hO4 := Lib.hid (hO4.alloc (.cells #[.string ⟨#[chU k]⟩, .bool (decide (0 < k)), .int .u8 0, .int .i64 0, .slice (some ⟨wr.heap.size + 1, 0, none⟩) 1 1, .slice (some ⟨wr.heap.size + 1 + 1 + 1, 0, none⟩) 1 1, .slice none 0 0, .string ⟨#[]⟩] 52))
        have hsw := Lib.hid (Nat.le_trans hB.out.size hB4.size)
        replace hB4 := Lib.hid hB4
        replace hN4 := Lib.hid hN4
        replace hA4 := Lib.hid hA4
        replace hS4 := Lib.hid hS4
        replace hsz4 := Lib.hid hsz4
        replace hO := Lib.hid hO.out
        go_wp2_with (at_builtin; refine wpList_append_own _ rfl _ _ 43 rfl w.heap.size 52 i0 _ 8 120 Try.underlying43 hi0' hz0 hz1 hz2 rfl (by decide) _ _ _ rfl hO4.out ⟨W4.heap.size, 0, none⟩ 1 1 (#[.string ⟨#[chU k]⟩, .bool (decide (0 < k)), .int .u8 0, .int .i64 0, .slice (some ⟨wr.heap.size + 1, 0, none⟩) 1 1, .slice (some ⟨wr.heap.size + 1 + 1 + 1, 0, none⟩) 1 1, .slice none 0 0, .string ⟨#[]⟩] : Array Value).toList rfl rfl (cell_rowx W4 _ _ _ rfl) (by simp [Value.oneCell']) (by unfold maxLen; omega) (by omega) (by have := hsw.out; simp only [World.size_alloc]; omega) ?_
                     intro v9 w9 hO9 hg9 _
                     replace hO9 := Lib.hid hO9
                     replace hg9 := Lib.hid hg9)
        have hO9' := hO9.out
        rw [← hrow.out] at hO9'
        have hfin := Lib.hid (dep_step hO.out hps.out hRo.out hB.out hB4.out hRow4.out hg9.out hO9')
        go_roundw
        case rel => exact ⟨k + 1, ps ++ [(wr.heap.size + 1, .slice (some ⟨wr.heap.size + 1 + 1 + 1, 0, none⟩) 1 1)], by omega, by simp, hfin.out.1, Lib.hid hfin.out.2.1, Lib.hid hfin.out.2.2.1, Lib.hid hfin.out.2.2.2⟩
        case measure => simp [intOf]
    · obtain rfl : k = f + 1 := by omega
      have hki : ¬ (((f + 1 : Nat) : Int)) ≤ (f : Int) := by omega
      obtain ⟨na, nc, rfl⟩ := owns_shx hO.out
      have hNd := owns_nds hO.out hps.out hRo.out
      obtain ⟨Lf, hLf⟩ : ∃ b, toldD d f = b := ⟨_, rfl⟩
      have hfd := fan_dep d hd12 f hf10
      rw [hLf] at hfd
      have hFan : Hid (Calls Try.prog 29 #[.slice na (f + 1) nc, .string ⟨#[97]⟩] wr fun e w' => ∃ a c, e = .returned (.slice a (if Lf then 1 else 0) c) ∧ Below wr.heap.size wr w') := Lib.hid (by
        refine (fan_any _ (chainD d f) [97] wr _ hNd (by rw [chain_len]; omega) (by simp) (chain_small d f) hfd).mono ?_
        rintro e w' ⟨v', L, rfl, ⟨a, c, rfl, -⟩, hpw, hmem, hb⟩
        have hL : L.length = if Lf then 1 else 0 := by
          cases Lf
          · have : L = [] := List.eq_nil_iff_forall_not_mem.2 fun x hx => by have := (hmem x).1 hx; simp at this
            rw [this]; rfl
          · have hm : ∀ x, x ∈ L ↔ x = subW := fun x => by rw [hmem x]; simp
            match L, hpw, hm with
            | [], _, hm => exact absurd ((hm subW).2 rfl) (by simp)
            | [x], _, _ => rfl
            | x :: y :: r, hpw, hm =>
              exfalso
              have h1 := (hm x).1 (by simp)
              have h2 := (hm y).1 (by simp)
              have h3 := (List.pairwise_cons.1 hpw).1 y (by simp)
              rw [h1, h2] at h3
              exact absurd h3 (by decide)
        rw [hL]
        exact ⟨a, c, rfl, hb⟩)
      have hLv : Hid (∀ W, Calls Try.prog 13 #[] W fun e w' => e = .returned (.bool true) ∧ Below W.heap.size W w') := Lib.hid fun W => live_any W
      unfold toldD at hLf
      clear hNd hfd hps hRo hO
      by_cases h0 : d = 0
      · obtain rfl : Lf = true := by rw [← hLf]; simp [h0]
        have h0b : ((d : Int) == 0) = true := by rw [h0]; rfl
        simp only [if_true] at hFan
        clear h0 hLf
        go_wp2_with (first
          | (go_at_call 29; refine hFan.out.mono ?_; rintro e w1 ⟨fa, fc, rfl, hb1⟩; replace hb1 := Lib.hid hb1)
          | (go_at_call 13; refine (hLv.out _).mono ?_; rintro e w2 ⟨rfl, hb2⟩; replace hb2 := Lib.hid hb2))
        go_ret
        exact ⟨rfl, belowT (belowT hB.out hb1.out) hb2.out⟩
      · have h0b : ((d : Int) == 0) = false := by simpa using h0
        by_cases h1 : f ≤ d
        · obtain rfl : Lf = true := by rw [← hLf]; simp [h1]
          have h1i : (f : Int) ≤ (d : Int) := by omega
          simp only [if_true] at hFan
          clear h0 hLf
          go_wp2_with (first
            | (go_at_call 29; refine hFan.out.mono ?_; rintro e w1 ⟨fa, fc, rfl, hb1⟩; replace hb1 := Lib.hid hb1)
            | (go_at_call 13; refine (hLv.out _).mono ?_; rintro e w2 ⟨rfl, hb2⟩; replace hb2 := Lib.hid hb2))
          go_ret
          exact ⟨rfl, belowT (belowT hB.out hb1.out) hb2.out⟩
        · have hf0 : f ≠ 0 := by omega
          obtain rfl : Lf = false := by rw [← hLf]; simp [h0, h1, hf0]
          have h1i : ¬ (f : Int) ≤ (d : Int) := by omega
          have h2b : ((f : Int) == 0) = false := by simpa using hf0
          simp only [Bool.false_eq_true, if_false] at hFan
          clear h0 hLf hf0
          go_wp2_with (first
            | (go_at_call 29; refine hFan.out.mono ?_; rintro e w1 ⟨fa, fc, rfl, hb1⟩; replace hb1 := Lib.hid hb1)
            | (go_at_call 13; refine (hLv.out _).mono ?_; rintro e w2 ⟨rfl, hb2⟩; replace hb2 := Lib.hid hb2))
          go_ret
          exact ⟨rfl, belowT (belowT hB.out hb1.out) hb2.out⟩
theorem collectDepth_walk (a b : Int) (w : World) (ha : (Lit.int .u8 a).wf = true) (hb : (Lit.int .u8 b).wf = true) :
    Calls Try.prog 9 #[.int .u8 a, .int .u8 b] w fun e w' => e = .returned (.bool true) ∧ Below w.heap.size w w' := by
  have h1 : IntKind.u8.min = 0 := rfl
  have h2 : IntKind.u8.max = 255 := rfl
  simp [Lit.wf, h1, h2] at ha hb
  obtain ⟨p, rfl⟩ : ∃ p : Nat, a = p := ⟨a.toNat, by omega⟩
  obtain ⟨q, rfl⟩ : ∃ q : Nat, b = q := ⟨b.toNat, by omega⟩
  exact collectDepth_go p q w (by omega) (by omega)
end Go.Proofs.Ytgodmppmiamhaaa
