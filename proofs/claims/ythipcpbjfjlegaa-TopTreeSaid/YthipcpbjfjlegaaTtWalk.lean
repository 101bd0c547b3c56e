/-
  The walk of TopTree: who subscribes to the root is told of every node, who subscribes to one place of it and of those right in it. No condition.
-/
import Derived.Test.YthipcpbjfjlegaaTtSub
import Derived.Test.YthipcpbjfjlegaaTtRight
import Derived.Test.YthipcpbjfjlegaaByMem
namespace Go.Proofs.Ythipcpbjfjlegaa
set_option linter.unusedVariables false
set_option linter.unusedSimpArgs false
open Go.RowKit Go.MapKept Go.Shelf
theorem conv_ony (W : World) (g : Nat) (c : UInt8) (h : W.heap[g]? = some (.cells #[.int .u8 (c.toNat : Int)] 5)) : (convert 22 9 (.slice (some ⟨g, 0, none⟩) 1 1)).run Try.prog W = .ok (.string ⟨#[c]⟩) W :=
  U8Row.back (xs := [c]) ⟨fun j hj => by obtain rfl : j = 0 := by simpa using hj
                                         simp [(obj_cells h).1], fun j hj => by obtain rfl : j = 0 := by simpa using hj
                                                                                simp [(obj_cells h).2.1]⟩ 22 9 5 Try.underlying22 Try.underlying5 Try.underlying9 1
theorem w8y (x : Int) (hx : 0 ≤ x) : IntKind.u8.wrap x = x % 256 := by simp [IntKind.wrap, IntKind.bits, IntKind.signed] <;> omega
theorem infoNy : ∃ i, Try.prog.info? 33 = some i ∧ i.zero = some (.agg #[.string ⟨#[]⟩, .bool false, .int .u8 0, .int .i64 0, .slice none 0 0, .slice none 0 0, .slice none 0 0, .string ⟨#[]⟩]) ∧ i.size = 8 ∧ i.bytes = 120 := by
  have h : (Try.prog.info? 33).map (fun i => (i.zero, i.size, i.bytes)) = some (some (.agg #[.string ⟨#[]⟩, .bool false, .int .u8 0, .int .i64 0, .slice none 0 0, .slice none 0 0, .slice none 0 0, .string ⟨#[]⟩]), 8, 120) := by kernel_rfl
  cases hi : Try.prog.info? 33 with
  | none => rw [hi] at h; cases h
  | some i => rw [hi] at h; simp only [Option.map_some, Option.some.injEq, Prod.mk.injEq] at h; exact ⟨i, rfl, h⟩
theorem cell_rowy (W : World) (cs : Array Value) (t : TypeId) (g : Nat) (hg : W.heap.size = g) : ∀ j u, cs.toList[j]? = some u → (W.alloc (.cells cs t)).cell? ((⟨g, 0, none⟩ : Addr).add j) = some u := fun j u hj => by
  subst hg
  rw [Addr.add_lit, (obj_cells (heap_alloc W _).1).1, Nat.zero_add]
  simpa using hj
theorem owns_formy {w : World} {base : Nat} {e : TypeId} {size : Nat} {v : Value} {n : Nat} {xs : List Value} (h : w.ownsRow base e size v n xs) (hn : 0 < n) : ∃ g c, v = .slice (some ⟨g, 0, none⟩) n c ∧ base ≤ g ∧ g < w.heap.size ∧ n ≤ c := by
  rcases h.2 with ⟨-, h0⟩ | ⟨g, cap, cur, h1, h2, h3, h4, -⟩
  · omega
  · exact ⟨g, cap, h1, h2, (Array.getElem?_eq_some_iff.1 h3).1, h4⟩
def parT (P : List UInt8) (j : Nat) : Nat := (P.getD (j - 1) 0).toNat % j
set_option maxRecDepth 100000 in
set_option maxHeartbeats 8000000 in
theorem topTree_go (v : Value) (P : List UInt8) (a : Nat) (w : World) (ha : a < 256) (hP : BySl w v P) :
    Calls Try.prog 3 #[v, .int .u8 a] w fun e w' => e = .returned (.bool true) ∧ Below w.heap.size w w' := by
  obtain ⟨vp, vc, rfl⟩ : ∃ p c, v = .slice p P.length c := by obtain ⟨p, c, h, -⟩ := hP; exact ⟨p, c, h⟩
  have hlm : (P.length : Int) ≤ 9223372036854775807 := by
    obtain ⟨p, c, h, h1, h2, -⟩ := hP
    unfold maxLen at h2
    omega
  obtain ⟨L, hL⟩ : ∃ L, P.length = L := ⟨_, rfl⟩
  have hP0 := Lib.hid hP
  rw [hL] at hlm ⊢
  have hL0 := Lib.hid hL
  clear hP hL
  have hW3 : Hid (TreeIn w (parT P) 99 1 (.slice (some ⟨w.heap.size + 1 + 1, 0, none⟩) 1 1) (((w.alloc (.cells #[.string ⟨#[111, 64, 100]⟩, .int .u8 5] 25)).alloc (.cells #[.string ⟨#[114, 64, 100]⟩, .bool false, .int .i64 0] 28)).alloc (.cells #[.string ⟨#[97]⟩, .bool true, .int .u8 0, .int .i64 0, .slice (some ⟨w.heap.size, 0, none⟩) 1 1, .slice (some ⟨w.heap.size + 1, 0, none⟩) 1 1, .slice none 0 0, .string ⟨#[]⟩] 33))) := Lib.hid (by
    have h3 := bare_nd ((w.alloc (.cells #[.string ⟨#[111, 64, 100]⟩, .int .u8 5] 25)).alloc (.cells #[.string ⟨#[114, 64, 100]⟩, .bool false, .int .i64 0] 28)) (.cells #[.string ⟨#[97]⟩, .bool true, .int .u8 0, .int .i64 0, .slice (some ⟨w.heap.size, 0, none⟩) 1 1, .slice (some ⟨w.heap.size + 1, 0, none⟩) 1 1, .slice none 0 0, .string ⟨#[]⟩] 33)
    rw [World.size_alloc, World.size_alloc] at h3
    refine ⟨[(w.heap.size, .slice (some ⟨w.heap.size + 1, 0, none⟩) 1 1)], rfl, ⟨rfl, .inr ⟨w.heap.size + 1 + 1, 1, _, rfl, by omega, h3, Nat.le_refl _, by decide, rfl, rfl⟩⟩, fun j hj => ?_, belowA (belowA (below1 _ _) _) _⟩
    have hj0 : j = 0 := by simpa using hj
    subst hj0
    refine ⟨obj_alloc (obj_alloc (heap_alloc w _).1), .inr ⟨w.heap.size + 1, _, 1, rfl, by decide, by decide, by decide, obj_alloc (by
      have h2 := bare_nd (w.alloc (.cells #[.string ⟨#[111, 64, 100]⟩, .int .u8 5] 25)) (.cells #[.string ⟨#[114, 64, 100]⟩, .bool false, .int .i64 0] 28)
      rw [World.size_alloc] at h2
      exact h2), fun i hi => ?_⟩⟩
    have hi0 : i = 0 := by simpa [subsT] using hi
    subst hi0
    exact ⟨rfl, rfl, rfl⟩)
  go_enter Try.func3, Try.ntmps3
  go_wp2
  go_loopw [5, 6] (fun s5 s6 wr => ∃ k : Nat, k ≤ 12 ∧ k ≤ L ∧ s6 = .int .i64 k ∧ Hid (TreeIn w (parT P) 99 (k + 1) s5 wr)) (fun _ s6 _ => 12 - (intOf s6).toNat)
  case atStart => exact ⟨0, by omega, by omega, rfl, hW3⟩
  case round =>
    clear hW3
    obtain ⟨k, hk12, hkL, rfl, hT⟩ := hrel
    by_cases hlt : k < L ∧ k < 12
    · obtain ⟨hl1, hl2⟩ := hlt
      have hki : (k : Int) < (L : Int) := by omega
      have hk12i : (k : Int) < 12 := by omega
      have hk0 : (0 : Int) ≤ (k : Int) := by omega
      obtain ⟨ps, hps, hO, hRo, hB⟩ := hT.out
      obtain ⟨g, c, rfl, hgb, hgl, -⟩ := owns_formy hO (by omega)
      have hkl : k < P.length := by have := hL0.out; omega
      obtain ⟨p', c', he, hcl, -, hat⟩ := hP0.out.below hB
      obtain ⟨rfl, -, rfl⟩ := Value.slice.inj he
      obtain ⟨bp, op, rfl, hbp, hcc⟩ := hat (by omega)
      have dx := hcc k hkl
      obtain ⟨x, hx⟩ : ∃ x, P[k]'hkl = x := ⟨_, rfl⟩
      rw [hx] at dx
      have hpar : parT P (k + 1) = x.toNat % (k + 1) := by
        unfold parT
        rw [show k + 1 - 1 = k by omega, List.getD_eq_getElem?_getD, List.getElem?_eq_getElem hkl, hx]
        rfl
      clear hcc hat he hx
      obtain ⟨xn, hxn⟩ : ∃ z, x.toNat = z := ⟨_, rfl⟩
      have hx256 : xn < 256 := by rw [← hxn]; exact x.toNat_lt
      rw [hxn] at dx hpar
      obtain ⟨pq, hpq⟩ : ∃ z, xn % (k + 1) = z := ⟨_, rfl⟩
      rw [hpq] at hpar
      have hpql : pq < k + 1 := by rw [← hpq]; exact Nat.mod_lt _ (by omega)
      have m2 : (xn : Int) % ((k : Int) + 1) = (pq : Int) := by
        have h1 : ((k : Int) + 1) = ((k + 1 : Nat) : Int) := by omega
        rw [h1, ← Int.natCast_emod, hpq]
      have m1 : (xn : Int).tmod ((k : Int) + 1) = (pq : Int) := by rw [Int.tmod_eq_emod_of_nonneg (by omega), m2]
      have m3 : IntKind.i64.wrap (xn : Int) = (xn : Int) := wrap_small _ (by omega) (by omega)
      have m4 : IntKind.i64.wrap (pq : Int) = (pq : Int) := wrap_small _ (by omega) (by omega)
      have m5 : (pq : Int) < (k : Int) + 1 := by omega
      have m6 : ¬ ((k : Int) + 1 = 0) := by omega
      have m7 : (((k : Int) + 1) == 0) = false := by simpa using m6
      have m8 : (0 : Int) ≤ (pq : Int) := by omega
      have b1 : IntKind.u8.wrap (k : Int) = (k : Int) := by rw [w8y _ (by omega)]; omega
      have b2 : IntKind.u8.wrap (98 + (k : Int)) = ((chT (k + 1)).toNat : Int) := by rw [w8y _ (by omega), chT_nat (k + 1) (by omega)]; omega
      have hc1 := conv_ony (wr.alloc (.cells #[.int .u8 ((chT (k + 1)).toNat : Int)] 5)) wr.heap.size (chT (k + 1)) (bare_nd _ _)
      have hnm : wr.cell? ⟨g, pq * 8, none⟩ = some (.string ⟨#[chT pq]⟩) := by
        have h1 := hO.cellAt (pq * 8) (by omega)
        rw [h1]
        have h2 := rowsT_at (parT P) ps 0 pq (by omega) 0 (by omega)
        rw [Nat.add_zero] at h2
        rw [h2, Nat.zero_add]
        rfl
      have hbp1 : bp < wr.heap.size + 1 := by omega
      have hbp2 : bp < wr.heap.size + 1 + 1 := by omega
      have hgl1 : g < wr.heap.size + 1 := by omega
      have hgl2 : g < wr.heap.size + 1 + 1 := by omega
      obtain ⟨i0, hi0', hz0, hz1, hz2⟩ := infoNy
      replace hO := Lib.hid hO
      replace hRo := Lib.hid hRo
      replace hps := Lib.hid hps
      replace hB := Lib.hid hB
      replace hpar := Lib.hid hpar
      replace hpq := Lib.hid hpq
      replace hxn := Lib.hid hxn
      clear hT
      go_upto_region 7 with (fail)
      obtain ⟨W4, hW4, hB4, hA4, hO4, hN4, hsz4⟩ : ∃ W4, (((wr.alloc (.cells #[.int .u8 ((chT (k + 1)).toNat : Int)] 5)).alloc (.cells #[.string ⟨#[111, 64, 100]⟩, .int .u8 5] 25)).alloc (.cells #[.string ⟨#[chT (k + 1)]⟩, .bool true, .int .u8 0, .int .i64 0, .slice (some ⟨wr.heap.size + 1, 0, none⟩) 1 1, .slice none 0 0, .slice none 0 0, .string ⟨#[chT pq]⟩] 33)) = W4 ∧ Below wr.heap.size wr W4 ∧ W4.heap[wr.heap.size + 1]? = some (.cells #[.string ⟨#[111, 64, 100]⟩, .int .u8 5] 25 (0, 0)) ∧ W4.ownsRow w.heap.size 33 8 (.slice (some ⟨g, 0, none⟩) (k + 1) c) (k + 1) (rowsT (parT P) 0 ps) ∧
          W4.heap[wr.heap.size + 1 + 1]? = some (.cells #[.string ⟨#[chT (k + 1)]⟩, .bool true, .int .u8 0, .int .i64 0, .slice (some ⟨wr.heap.size + 1, 0, none⟩) 1 1, .slice none 0 0, .slice none 0 0, .string ⟨#[chT pq]⟩] 33 (0, 0)) ∧ W4.heap.size = wr.heap.size + 1 + 1 + 1 := by
        refine ⟨_, rfl, belowA (belowA (below1 _ _) _) _, ?_, ((hO.out.alloc _).alloc _).alloc _, ?_, by simp only [World.size_alloc]⟩
        · refine obj_alloc ?_
          have := bare_nd (wr.alloc (.cells #[.int .u8 ((chT (k + 1)).toNat : Int)] 5)) (.cells #[.string ⟨#[111, 64, 100]⟩, .int .u8 5] 25)
          rwa [World.size_alloc] at this
        · have := bare_nd ((wr.alloc (.cells #[.int .u8 ((chT (k + 1)).toNat : Int)] 5)).alloc (.cells #[.string ⟨#[111, 64, 100]⟩, .int .u8 5] 25)) (.cells #[.string ⟨#[chT (k + 1)]⟩, .bool true, .int .u8 0, .int .i64 0, .slice (some ⟨wr.heap.size + 1, 0, none⟩) 1 1, .slice none 0 0, .slice none 0 0, .string ⟨#[chT pq]⟩] 33)
          rwa [World.size_alloc, World.size_alloc] at this
      have hrow : Hid (rowT (parT P) (k + 1) (wr.heap.size + 1, .slice none 0 0) = (#[.string ⟨#[chT (k + 1)]⟩, .bool true, .int .u8 0, .int .i64 0, .slice (some ⟨wr.heap.size + 1, 0, none⟩) 1 1, .slice none 0 0, .slice none 0 0, .string ⟨#[chT pq]⟩] : Array Value).toList) := Lib.hid (by simp [rowT, ndC, ndT, hpar.out])
      have hRow4 : Hid (RowT 99 W4 (k + 1) (wr.heap.size + 1, .slice none 0 0)) := Lib.hid ⟨hA4, .inl ⟨by unfold subsT; rw [if_neg (by omega), if_neg (by omega)]; rfl, rfl⟩⟩
      obtain ⟨nc4, nf4, nl4⟩ := obj_cells hN4
      replace hO4 := Lib.hid (hO4.alloc (.cells #[.string ⟨#[chT (k + 1)]⟩, .bool true, .int .u8 0, .int .i64 0, .slice (some ⟨wr.heap.size + 1, 0, none⟩) 1 1, .slice none 0 0, .slice none 0 0, .string ⟨#[chT pq]⟩] 33))
      have hsw := Lib.hid (Nat.le_trans hB.out.size hB4.size)
      replace hB4 := Lib.hid hB4
      replace hN4 := Lib.hid hN4
      replace hA4 := Lib.hid hA4
      replace hsz4 := Lib.hid hsz4
      clear dx hnm hc1 hbp hbp1 hbp2
      go_wp2_with (at_builtin; refine wpList_append_own _ rfl _ _ 34 rfl w.heap.size 33 i0 _ 8 120 Try.underlying34 hi0' hz0 hz1 hz2 rfl (by decide) _ _ _ rfl hO4.out ⟨W4.heap.size, 0, none⟩ 1 1 (#[.string ⟨#[chT (k + 1)]⟩, .bool true, .int .u8 0, .int .i64 0, .slice (some ⟨wr.heap.size + 1, 0, none⟩) 1 1, .slice none 0 0, .slice none 0 0, .string ⟨#[chT pq]⟩] : Array Value).toList rfl rfl (cell_rowy W4 _ _ _ rfl) (by simp [Value.oneCell']) (by unfold maxLen; omega) (by omega) (by have := hsw.out; simp only [World.size_alloc]; omega) ?_
                   intro v9 w9 hO9 hg9 _
                   replace hO9 := Lib.hid hO9
                   replace hg9 := Lib.hid hg9)
      have hO9' := hO9.out
      rw [← hrow.out] at hO9'
      have hfin := Lib.hid (tree_step hO.out hps.out hRo.out hB.out hB4.out hRow4.out hg9.out hO9')
      go_roundw
      case rel => exact ⟨k + 1, by omega, by omega, by simp, Lib.hid ⟨_, hfin.out.1, hfin.out.2.1, hfin.out.2.2.1, hfin.out.2.2.2⟩⟩
      case measure => simp [intOf]; omega
    · have hlast : Hid (k = L ∨ (k = 12 ∧ k < L)) := Lib.hid (by omega)
      go_upto_region 3 with (fail)
      go_cut [25] (fun v25 W => v25 = .bool false ∧ W = wr)
      case first =>
        rcases hlast.out with h | ⟨h1, h2⟩
        · have q1 : ¬ (k : Int) < (L : Int) := by omega
          clear h hlt hlast
          go_wp2_with fail
          go_meet
          exact ⟨rfl, rfl⟩
        · have q1 : (k : Int) < (L : Int) := by omega
          have q2 : ¬ (k : Int) < 12 := by omega
          clear h1 h2 hlt hlast
          go_wp2_with fail
          go_meet
          exact ⟨rfl, rfl⟩
      case rest =>
      obtain ⟨rfl, hw0⟩ := hcut
      obtain ⟨wr, hwr⟩ : ∃ W, W = wc := ⟨_, rfl⟩
      rw [← hw0, ← hwr] at hT
      subst hwr
      clear hw0 hlast hlt
      obtain ⟨ps, hps, hO, hRo, hB⟩ := hT.out
      obtain ⟨g, c, rfl, hgb, hgl, hkc⟩ := owns_formy hO (by omega)
      have hps2 : ps.length = k + 1 := hps
      obtain ⟨kk, hkk⟩ : ∃ z, a % (k + 1) = z := ⟨_, rfl⟩
      have hkl : kk < k + 1 := by rw [← hkk]; exact Nat.mod_lt _ (by omega)
      have m2 : (a : Int) % ((k : Int) + 1) = (kk : Int) := by
        have h1 : ((k : Int) + 1) = ((k + 1 : Nat) : Int) := by omega
        rw [h1, ← Int.natCast_emod, hkk]
      have m1 : (a : Int).tmod ((k : Int) + 1) = (kk : Int) := by rw [Int.tmod_eq_emod_of_nonneg (by omega), m2]
      have m3 : IntKind.i64.wrap (a : Int) = (a : Int) := wrap_small _ (by omega) (by omega)
      have m4 : IntKind.i64.wrap (kk : Int) = (kk : Int) := wrap_small _ (by omega) (by omega)
      have m5 : (kk : Int) < (k : Int) + 1 := by omega
      have m6 : ¬ ((k : Int) + 1 = 0) := by omega
      have m7 : (((k : Int) + 1) == 0) = false := by simpa using m6
      have m8 : (0 : Int) ≤ (kk : Int) := by omega
      have hkp : kk < ps.length := by omega
      obtain ⟨hAk, hSk⟩ := hRo kk hkp
      have hsv : wr.cell? ⟨g, kk * 8 + 5, none⟩ = some (ps[kk]'hkp).2 := by
        have h1 := hO.cellAt (kk * 8 + 5) (by omega)
        rw [h1, rowsT_at (parT P) ps 0 kk hkp 5 (by omega)]
        rfl
      obtain ⟨sv, hsve⟩ : ∃ z, (ps[kk]'hkp).2 = z := ⟨_, rfl⟩
      rw [hsve] at hsv hSk
      replace hsve := Lib.hid hsve
      obtain ⟨svp, svn, svc, rfl⟩ : ∃ p n c, sv = .slice p n c := by
        rcases hSk with ⟨-, rfl⟩ | ⟨h, cs, c, rfl, -⟩
        · exact ⟨_, _, _, rfl⟩
        · exact ⟨_, _, _, rfl⟩
      obtain ⟨va, wa, hra, hOa, hBa⟩ := sub_copy wr _ _ hSk (by unfold subsT; split <;> split <;> simp)
      obtain ⟨vb, wb, hrb, hOb, hBb⟩ := sub_more wa wr.heap.size va _ (sT, false, 1) hOa (by unfold subsT; split <;> split <;> simp) hBa.size
      have hT9 := tree_sub hps2 (by omega) hkl hO hRo hB hBa hBb hOb
      obtain ⟨vap, van, vac, rfl⟩ : ∃ p n c, va = .slice p n c := by obtain ⟨p, c, h⟩ := owns_shx hOa; exact ⟨_, _, _, h⟩
      obtain ⟨vbp, vbn, vbc, rfl⟩ : ∃ p n c, vb = .slice p n c := by obtain ⟨p, c, h⟩ := owns_shx hOb; exact ⟨_, _, _, h⟩
      have hgwb : g < wb.heap.size := Nat.lt_of_lt_of_le (Nat.lt_of_lt_of_le hgl hBa.size) hBb.size
      have hcb : wb.cell? ⟨g, kk * 8 + 5, none⟩ = some (.slice svp svn svc) := (hBb.cell (p := ⟨g, _, none⟩) hgl).trans ((hBa.cell (p := ⟨g, _, none⟩) hgl).trans hsv)
      have hfb : wb.frozen? ⟨g, kk * 8 + 5, none⟩ = false := (hBb.frozen (p := ⟨g, _, none⟩) hgl).trans ((hBa.frozen (p := ⟨g, _, none⟩) hgl).trans (hO.frozenAt _))
      have hsT : sT.toArray = #[115, 64, 100] := rfl
      simp only [hsT] at hrb
      replace hra := Lib.hid hra
      replace hrb := Lib.hid hrb
      replace hT9 := Lib.hid hT9
      clear hT hO hRo hps hps2 hAk hSk hOa hOb hBa hBb hsT hB hkk m6
      go_upto_region 9 with (fail)
      have tokA := Lib.hid True.intro
      go_upto_region 10 with (first
        | (have m0 := tokA.out; at_builtin; refine wpList_append_rux _ wa rfl _ _ 29 rfl _ _ _ rfl rfl hra.out ?_; clear tokA m0; have tokB := Lib.hid True.intro)
        | (have m0 := tokB.out; at_builtin; refine wpList_append_rux _ wb rfl _ _ 29 rfl _ _ _ rfl rfl hrb.out ?_; clear tokB m0))
      obtain ⟨W9, hW9⟩ : ∃ W, wb.setCell ⟨g, kk * 8 + 5, none⟩ (.slice vbp vbn vbc) = W := ⟨_, rfl⟩
      have hT10 := hT9.out
      rw [hW9] at hT10 ⊢
      obtain ⟨ps9, hps9, hO9, hRo9, hB9⟩ := hT10
      clear hT9 hra hrb hcb hfb hgwb hsv hW9 m1 m2 m3 m4 m7
      have hNd := owns_tree hO9 hps9 (by omega) hRo9
      have hcell : ∀ i j u, i < k + 1 → (∃ h : i < ps9.length, (rowT (parT P) i (ps9[i]'h))[j]? = some u) → W9.cell? ⟨g, i * 8 + j, none⟩ = some u := fun i j u hi ⟨h, hu⟩ => by
        have hj : j < 8 := (List.getElem?_eq_some_iff.1 hu).1
        rw [hO9.cellAt (i * 8 + j) (by omega), rowsT_at (parT P) ps9 0 i h j hj, Nat.zero_add]
        exact hu
      have hg9 : g < W9.heap.size := (hO9.lt g rfl).2
      have hnmI : Hid (∀ i, i < k + 1 → W9.cell? ⟨g, i * 8, none⟩ = some (.string ⟨([chT i] : Tx).toArray⟩)) := Lib.hid fun i hi => hcell i 0 _ hi ⟨by omega, rfl⟩
      have hpaI : Hid (∀ i, i < k + 1 → W9.cell? ⟨g, i * 8 + 7, none⟩ = some (.string ⟨(if i = 0 then [] else [chT (parT P i)] : Tx).toArray⟩)) := Lib.hid fun i hi => hcell i 7 _ hi ⟨by omega, rfl⟩
      have hpar : ∀ i, 0 < i → i < k + 1 → parT P i < i := fun i h _ => Nat.mod_lt _ h
      have hFan : Hid (∀ i W, i < k + 1 → Below W9.heap.size W9 W → Calls Try.prog 4 #[.slice (some ⟨g, 0, none⟩) (k + 1) c, .string ⟨([chT i] : Tx).toArray⟩] W fun e w' => ∃ b o cp, e = .returned (.slice (some ⟨b, o, none⟩) (if nearT kk (parT P) i then 2 else 1) cp) ∧ b < w'.heap.size ∧ w'.cell? ⟨b, o, none⟩ = some (.string ⟨#[114, 64, 100]⟩) ∧ (nearT kk (parT P) i = true → w'.cell? ⟨b, o + 1, none⟩ = some (.string ⟨#[115, 64, 100]⟩)) ∧ Below W.heap.size W w') := Lib.hid fun i W hi hW => by
        obtain ⟨T, hT1, hT2⟩ := fan_T (n := k + 1) (k := kk) (par := parT P) (by omega) hpar hi
        refine (fan_any _ (treeT (k + 1) kk (parT P)) [chT i] W T (hNd.below hW) (by rw [tree_len]; omega) (by simp) (fun n hn => ?_) hT1).mono ?_
        · obtain ⟨q, -, rfl⟩ := List.mem_map.1 hn
          refine ⟨by simp [ndT], ?_, by simp [ndT], ?_, ?_⟩
          · unfold ndT; simp only; split <;> simp
          · simp only [ndT, subsT]; split <;> split <;> simp
          · intro s hs
            have hs' : s ∈ subsT kk q := hs
            unfold subsT at hs'
            rcases List.mem_append.1 hs' with h | h
            · split at h
              · rw [List.mem_singleton.1 h]; show rT.length ≤ _; decide
              · cases h
            · split at h
              · rw [List.mem_singleton.1 h]; show sT.length ≤ _; decide
              · cases h
        · rintro e w' ⟨v', Lf, rfl, ⟨fa, fc, rfl, hfc⟩, hpw, hmem, hb⟩
          have hLe := list_T hpw (fun x => (hmem x).trans (hT2 x))
          rw [hLe] at hfc ⊢
          cases hnr : nearT kk (parT P) i
          · rw [hnr] at hfc
            obtain ⟨b, o, rfl, h1, h2⟩ := hfc (by simp)
            exact ⟨b, o, fc, rfl, h1, h2 0 (by simp), (fun h => by cases h), hb⟩
          · rw [hnr] at hfc
            obtain ⟨b, o, rfl, h1, h2⟩ := hfc (by simp)
            exact ⟨b, o, fc, rfl, h1, h2 0 (by simp), (fun _ => h2 1 (by simp)), hb⟩
      obtain ⟨hA0, hS0⟩ := hRo9 0 (by omega)
      obtain ⟨p0, hp0⟩ : ∃ z, ps9[0]'(by omega) = z := ⟨_, rfl⟩
      rw [hp0] at hA0 hS0
      have z0 := hcell 0 0 (.string ⟨#[97]⟩) (by omega) ⟨by omega, by rw [hp0]; rfl⟩
      have z1 := hcell 0 1 (.bool true) (by omega) ⟨by omega, by rw [hp0]; rfl⟩
      have z2 := hcell 0 2 (.int .u8 0) (by omega) ⟨by omega, by rw [hp0]; rfl⟩
      have z3 := hcell 0 3 (.int .i64 0) (by omega) ⟨by omega, by rw [hp0]; rfl⟩
      have z4 := hcell 0 4 (.slice (some ⟨p0.1, 0, none⟩) 1 1) (by omega) ⟨by omega, by rw [hp0]; rfl⟩
      have z5 := hcell 0 5 p0.2 (by omega) ⟨by omega, by rw [hp0]; rfl⟩
      have z6 := hcell 0 6 (.slice none 0 0) (by omega) ⟨by omega, by rw [hp0]; rfl⟩
      have z7 := hcell 0 7 (.string ⟨#[]⟩) (by omega) ⟨by omega, by rw [hp0]; rfl⟩
      simp only [Nat.zero_mul, Nat.zero_add] at z0 z1 z2 z3 z4 z5 z6 z7
      obtain ⟨pa0, sv0⟩ := p0
      simp only at hA0 hS0 z4 z5
      have hAf : AfS W9 (.slice (some ⟨pa0, 0, none⟩) 1 1) [(oT, 5)] := by
        obtain ⟨ac, -, al⟩ := obj_cells hA0
        refine ⟨some ⟨pa0, 0, none⟩, 1, rfl, Nat.le_refl _, by decide, fun _ => ⟨_, 0, rfl, al, fun q hq => ?_⟩⟩
        have hq0 : q = 0 := by have : q < 1 := hq; omega
        subst hq0
        exact ⟨ac 0, ac 1⟩
      have hSu := hS0.su
      obtain ⟨svp0, svn0, svc0, rfl⟩ : ∃ p n c, sv0 = .slice p n c := by
        obtain ⟨p, c, h, -⟩ := hSu
        exact ⟨p, _, c, h⟩
      have hSu2 : SuS W9 (.slice svp0 svn0 svc0) ((rT, false, 0) :: if decide (kk = 0) then [(sT, false, 1)] else []) := by
        have e : subsT kk 0 = ((rT, false, (0 : Int)) :: if decide (kk = 0) then [(sT, false, 1)] else []) := by
          unfold subsT
          by_cases h : kk = 0
          · simp [h]
          · have h' : ¬ 0 = kk := fun e => h e.symm
            simp [h, h']
        rw [e] at hSu
        exact hSu
      have hRt : Hid (∀ W, Below W9.heap.size W9 W → Calls Try.prog 5 #[.agg #[.string ⟨#[97]⟩, .bool true, .int .u8 0, .int .i64 0, .slice (some ⟨pa0, 0, none⟩) 1 1, .slice svp0 svn0 svc0, .slice none 0 0, .string ⟨#[]⟩]] W fun e w' => e = .returned (.bool true) ∧ Below W.heap.size W w') := Lib.hid fun W hW => rightRoot_any _ _ _ _ _ (decide (kk = 0)) W (hAf.below hW) (hSu2.below hW)
      have hz : Hid (∀ W, Below W9.heap.size W9 W → (W.cell? ⟨g, 0, none⟩ = some (.string ⟨#[97]⟩) ∧ W.cell? ⟨g, 1, none⟩ = some (.bool true) ∧ W.cell? ⟨g, 2, none⟩ = some (.int .u8 0) ∧ W.cell? ⟨g, 3, none⟩ = some (.int .i64 0) ∧ W.cell? ⟨g, 4, none⟩ = some (.slice (some ⟨pa0, 0, none⟩) 1 1) ∧ W.cell? ⟨g, 5, none⟩ = some (.slice svp0 svn0 svc0) ∧ W.cell? ⟨g, 6, none⟩ = some (.slice none 0 0) ∧ W.cell? ⟨g, 7, none⟩ = some (.string ⟨#[]⟩))) := Lib.hid fun W hW =>
        ⟨(hW.cell (p := ⟨g, 0, none⟩) hg9).trans z0, (hW.cell (p := ⟨g, 1, none⟩) hg9).trans z1, (hW.cell (p := ⟨g, 2, none⟩) hg9).trans z2, (hW.cell (p := ⟨g, 3, none⟩) hg9).trans z3, (hW.cell (p := ⟨g, 4, none⟩) hg9).trans z4, (hW.cell (p := ⟨g, 5, none⟩) hg9).trans z5, (hW.cell (p := ⟨g, 6, none⟩) hg9).trans z6, (hW.cell (p := ⟨g, 7, none⟩) hg9).trans z7⟩
      replace hB9 := Lib.hid hB9
      clear z0 z1 z2 z3 z4 z5 z6 z7 hAf hSu hSu2 hA0 hS0 hp0 hcell hNd hO9 hRo9 hps9 hpar
      go_wp2_with fail
      go_loopw [9] (fun s9 wr => ∃ i : Nat, i ≤ k + 1 ∧ s9 = .int .i64 i ∧ Hid (Below W9.heap.size W9 wr)) (fun s9 _ => k + 1 - (intOf s9).toNat)
      case atStart => exact ⟨0, by omega, rfl, Lib.hid (Below.refl _ _)⟩
      case round =>
        obtain ⟨i, hi, rfl, hB⟩ := hrel
        by_cases hlt : i < k + 1
        · have hii : (i : Int) < (k : Int) + 1 := by omega
          have hi0 : (0 : Int) ≤ (i : Int) := by omega
          have hgw := Nat.lt_of_lt_of_le hg9 hB.out.size
          have c1 := (hB.out.cell (p := ⟨g, i * 8, none⟩) hg9).trans (hnmI.out i hlt)
          have hF := Lib.hid (hFan.out i wr hlt hB.out)
          obtain ⟨ni, hni⟩ : ∃ z, ([chT i] : Tx) = z := ⟨_, rfl⟩
          rw [hni] at c1 hF
          replace hni := Lib.hid hni
          obtain ⟨nr, hnr⟩ : ∃ z, nearT kk (parT P) i = z := ⟨_, rfl⟩
          rw [hnr] at hF
          obtain ⟨nl, hnl⟩ : ∃ z, (if nr = true then 2 else 1) = z := ⟨_, rfl⟩
          rw [hnl] at hF
          replace hnl := Lib.hid hnl
          replace hnr := Lib.hid hnr
          go_upto_region 14 with (go_at_call 4; refine hF.out.mono ?_; rintro e w1 ⟨fb, fo, fc, rfl, hfb, hf0, hf1, hb1⟩; have hB1 := Lib.hid (belowT hB.out hb1); replace hf1 := Lib.hid hf1; clear hb1)
          have hg1 := Nat.lt_of_lt_of_le hg9 hB1.out.size
          have q7 := (hB1.out.cell (p := ⟨g, i * 8 + 7, none⟩) hg9).trans (hpaI.out i hlt)
          have qk := (hB1.out.cell (p := ⟨g, kk * 8, none⟩) hg9).trans (hnmI.out kk hkl)
          have hnc : Hid (¬ i = kk → ((if i = 0 then [] else [chT (parT P i)] : Tx) == [chT kk]) = nr) := Lib.hid (fun hne => by
            rw [← hnr.out]
            unfold nearT
            by_cases h0 : i = 0
            · subst h0
              have hne' : decide (0 = kk) = false := by simpa using hne
              rw [hne']; rfl
            · rw [if_neg h0]
              have hp : parT P i < i := Nat.mod_lt _ (by omega)
              have h1 : decide (i = kk) = false := by simpa using hne
              have h2 : decide (i ≠ 0) = true := by simpa using h0
              rw [h1, h2, Bool.false_or, Bool.true_and, Bool.eq_iff_iff]
              simp only [beq_iff_eq, List.cons.injEq, and_true, decide_eq_true_eq]
              exact ⟨fun h => chT_inj (by omega) (by omega) h, fun h => by rw [h]⟩)
          obtain ⟨px, hpx⟩ : ∃ z, (if i = 0 then [] else [chT (parT P i)] : Tx) = z := ⟨_, rfl⟩
          obtain ⟨nk, hnk⟩ : ∃ z, ([chT kk] : Tx) = z := ⟨_, rfl⟩
          rw [hpx] at q7 hnc
          rw [hnk] at qk hnc
          replace hpx := Lib.hid hpx
          replace hnk := Lib.hid hnk
          have hnt : Hid (i = kk → nr = true) := Lib.hid (fun h => by rw [← hnr.out]; unfold nearT; simp [h])
          go_cut [11] (fun v11 W => v11 = .bool nr ∧ W = w1.drew)
          case first =>
            by_cases hik : i = kk
            · have hq : ((i : Int) == (kk : Int)) = true := by simp [hik]
              have hnt2 := Lib.hid (hnt.out hik)
              clear hik
              refine wp_region_float (by kernel_rfl) (by kernel_rfl) (fun W => W = w1.drew) rfl ?_
              simp only [List.toList_toArray]
              repeat (first
                | (apply Flo.skip; · rfl
                   simp only [Act.put, List.setIfInBounds_toArray, List.set_cons_zero, List.set_cons_succ, hq])
                | (apply Flo.val; · rfl
                   · (intro W hSw; subst hSw; go_simp; (try with_reducible rfl))
                   simp only [Act.put, List.setIfInBounds_toArray, List.set_cons_zero, List.set_cons_succ, hq])
                | fail)
              intro W hSw
              subst hSw
              go_wp2_with fail
              go_meet
              exact ⟨by rw [hnt2.out], rfl⟩
            · have hq : ((i : Int) == (kk : Int)) = false := by simpa using fun e : (i : Int) = kk => hik (by omega)
              have hnc2 := Lib.hid (hnc.out hik)
              clear hik
              refine wp_region_float (by kernel_rfl) (by kernel_rfl) (fun W => W = w1.drew) rfl ?_
              simp only [List.toList_toArray]
              repeat (first
                | (apply Flo.skip; · rfl
                   simp only [Act.put, List.setIfInBounds_toArray, List.set_cons_zero, List.set_cons_succ, hq])
                | (apply Flo.val; · rfl
                   · (intro W hSw; subst hSw; go_simp; (try with_reducible rfl))
                   simp only [Act.put, List.setIfInBounds_toArray, List.set_cons_zero, List.set_cons_succ, hq])
                | fail)
              intro W hSw
              subst hSw
              go_wp2_with fail
              go_meet
              exact ⟨by rw [hnc2.out], rfl⟩
          case rest =>
            obtain ⟨rfl, rfl⟩ := hcut
            clear q7 qk hnc hnt
            have hB2 : Hid (Below W9.heap.size W9 w1.drew) := Lib.hid hB1.out.drew
            have hfb2 : fb < w1.drew.heap.size := hfb
            have hf02 : w1.drew.cell? ⟨fb, fo, none⟩ = some (.string ⟨#[114, 64, 100]⟩) := hf0
            cases nr
            · clear hf1
              obtain rfl : nl = 1 := hnl.out.symm
              go_wp2_with fail
              go_roundw
              case rel => exact ⟨i + 1, by omega, by simp, hB2⟩
              case measure => simp [intOf]; omega
            · have hf12 : w1.drew.cell? ⟨fb, fo + 1, none⟩ = some (.string ⟨#[115, 64, 100]⟩) := hf1.out rfl
              clear hf1
              obtain rfl : nl = 2 := hnl.out.symm
              go_wp2_with fail
              go_roundw
              case rel => exact ⟨i + 1, by omega, by simp, hB2⟩
              case measure => simp [intOf]; omega
        · obtain rfl : i = k + 1 := by omega
          have hii : ¬ (((k + 1 : Nat) : Int) < (k : Int) + 1) := by omega
          have hgw := Nat.lt_of_lt_of_le hg9 hB.out.size
          obtain ⟨z0, z1, z2, z3, z4, z5, z6, z7⟩ := hz.out _ hB.out
          have hR := Lib.hid (hRt.out _ hB.out)
          have hk1 : (0 : Int) < (k : Int) + 1 := by omega
          go_wp2_with (go_at_call 5; refine hR.out.mono ?_; rintro e w2 ⟨rfl, hb2⟩; replace hb2 := Lib.hid hb2)
          go_ret
          exact ⟨rfl, belowT (belowT hB9.out hB.out) hb2.out⟩
theorem topTree_walk (v : Value) (P : List UInt8) (a : Int) (w : World) (hP : BySl w v P) (ha : (Lit.int .u8 a).wf = true) :
    Calls Try.prog 3 #[v, .int .u8 a] w fun e w' => e = .returned (.bool true) ∧ Below w.heap.size w w' := by
  have h1 : IntKind.u8.min = 0 := rfl
  have h2 : IntKind.u8.max = 255 := rfl
  simp [Lit.wf, h1, h2] at ha
  obtain ⟨p, rfl⟩ : ∃ p : Nat, a = p := ⟨a.toNat, by omega⟩
  exact topTree_go v P p w (by omega) hP
end Go.Proofs.Ythipcpbjfjlegaa
