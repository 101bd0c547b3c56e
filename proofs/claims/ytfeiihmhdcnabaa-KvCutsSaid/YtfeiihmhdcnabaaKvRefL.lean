/-
  The reference's Load, by the program. Condition: no more than 9000 bytes.
-/
import Derived.Test.YtfeiihmhdcnabaaKvLoad
import Derived.Laws.BitsAllLaws
namespace Go.Proofs.Ytfeiihmhdcnabaa
set_option linter.unusedVariables false
set_option linter.unusedSimpArgs false
open Go.RowKit Go.MapKept
theorem shl_run (x : UInt8) (W : World) : (binOp .shl 3 (.int .i64 (x.toNat : Int)) (.int .u64 8)).run Try.prog W = .ok (.int .i64 ((x.toNat : Int) * 256)) W := by
  have hx : x.toNat < 256 := x.toNat_lt
  have h := wrap_small ((x.toNat : Int) * 256) (by omega) (by omega)
  simp [go_sem, binOp]
  exact h
theorem or_i64 (a b : Nat) (ha : a < 65536) (hb : b < 65536) : bits .or .i64 (a : Int) (b : Int) = ((a ||| b : Nat) : Int) := by
  have hx : a ||| b < 2 ^ 16 := Nat.or_lt_two_pow (by omega) (by omega)
  have h1 : ∀ n : Nat, n < 65536 → (BitVec.ofInt 64 (n : Int)).toNat = n := fun n hn => by
    rw [BitVec.ofInt_natCast, BitVec.toNat_ofNat]; exact Nat.mod_eq_of_lt (by omega)
  show IntKind.i64.wrap ((BitVec.ofInt 64 (a : Int) ||| BitVec.ofInt 64 (b : Int)).toNat : Int) = _
  rw [BitVec.toNat_or, h1 a ha, h1 b hb]
  exact wrap_small _ (by omega) (by omega)
theorem or_run (x y : UInt8) : bits .or .i64 ((x.toNat : Int) * 256) (y.toNat : Int) = ((x.toNat * 256 + y.toNat : Nat) : Int) := by
  have hx : x.toNat < 256 := x.toNat_lt
  have hy : y.toNat < 256 := y.toNat_lt
  have h := or_i64 (x.toNat * 256) y.toNat (by omega) (by omega)
  have e : x.toNat * 256 ||| y.toNat = x.toNat * 256 + y.toNat := by
    have := Nat.shiftLeft_add_eq_or_of_lt (b := y.toNat) (i := 8) hy x.toNat
    rw [Nat.shiftLeft_eq] at this
    exact this.symm
  rw [e] at h
  rw [show ((x.toNat * 256 : Nat) : Int) = (x.toNat : Int) * 256 by omega] at h
  exact h
theorem ixb_at (b o N cap j : Nat) (z : Int) (hz : z = (j : Int)) (hj : j < N) (w : World) : (Instr.indexAt 26 (.slice (some ⟨b, o, none⟩) N cap) (.int .i64 z)).run Try.prog w = .ok (.pointer (some ⟨b, o + j, none⟩)) w := by
  subst hz
  have h1 : (0 : Int) ≤ (j : Int) := by omega
  have h2 : (j : Int) < (N : Int) := by omega
  simp [go_sem, h1, h2, hj]
theorem slice_2 (p : Option Addr) (n c i j : Nat) (x y : Int) (hx : x = (i : Int)) (hy : y = (j : Int)) (h1 : i ≤ j) (h2 : j ≤ c) (W : World) : (Instr.slice 26 (.slice p n c) (some (.int .i64 x)) (some (.int .i64 y)) none).run Try.prog W = .ok (.slice (fromP p c i) (j - i) (c - i)) W := by
  subst hx hy
  have h3 : (i : Int) ≤ (j : Int) := by omega
  have h4 : (j : Int) ≤ (c : Int) := by omega
  unfold fromP
  simp [go_sem, h1, h2, h3, h4]
theorem slice_f (p : Option Addr) (n c i : Nat) (x : Int) (hx : x = (i : Int)) (h1 : i ≤ n) (h2 : n ≤ c) (W : World) : (Instr.slice 26 (.slice p n c) (some (.int .i64 x)) none none).run Try.prog W = .ok (.slice (fromP p c i) (n - i) (c - i)) W := by
  subst hx
  have h3 : (i : Int) ≤ (n : Int) := by omega
  have h4 : (n : Int) ≤ (c : Int) := by omega
  unfold fromP
  simp [go_sem, h1, h2, h3, h4]
theorem BySl.sub {w : World} {p : Option Addr} {c n i j : Nat} {l : List UInt8} (h : BySl w (.slice p n c) l) (h1 : i ≤ j) (hk : j ≤ n) : BySl w (.slice (fromP p c i) (j - i) (c - i)) ((l.drop i).take (j - i)) := by
  have hf := h.from (k := i) (by omega)
  obtain ⟨pp, cc, e0, g2, g3, -⟩ := h
  obtain ⟨rfl, rfl, rfl⟩ := Value.slice.inj e0
  clear e0
  obtain ⟨p', c', e, h2, h3, h4⟩ := hf
  have hl : (l.drop i).length = l.length - i := List.length_drop
  have ht : ((l.drop i).take (j - i)).length = j - i := by rw [List.length_take, hl]; exact Nat.min_eq_left (Nat.sub_le_sub_right hk i)
  obtain ⟨e1, -, e3⟩ := Value.slice.inj e
  rw [← e1] at h4
  rw [← e3] at h3
  refine ⟨_, _, by rw [ht], by rw [ht]; exact Nat.sub_le_sub_right (Nat.le_trans hk g2) i, h3, fun h0 => ?_⟩
  rw [ht] at h0
  obtain ⟨b, o, e1, hb, hc⟩ := h4 (by rw [hl]; exact Nat.lt_of_lt_of_le h0 (Nat.sub_le_sub_right hk i))
  refine ⟨b, o, e1, hb, fun q hq => ?_⟩
  rw [List.getElem_take]
  exact hc q (by rw [hl]; rw [ht] at hq; exact Nat.lt_of_lt_of_le hq (Nat.sub_le_sub_right hk i))
def RefLoadOut (R : Option Ats) (w : World) (e : Ending) (w' : World) : Prop :=
  Below w.heap.size w w' ∧ match R with
    | none => e = .returned (.tuple #[.pointer none, .int .i64 3])
    | some E => ∃ g, e = .returned (.tuple #[.pointer (some ⟨g, 0, none⟩), .int .i64 0]) ∧ w.heap.size ≤ g ∧ RfS w' g E
theorem BySl.butR {w w' : World} {v : Value} {l : List UInt8} {g : Nat} {E : Ats} (h : BySl w v l) (hg : w.grownBy w' (some g)) (hr : RfS w g E) : BySl w' v l := by
  obtain ⟨p, c, h1, h2, h3, h4⟩ := h
  refine ⟨p, c, h1, h2, h3, fun h0 => ?_⟩
  obtain ⟨b, o, e, hbl, hc⟩ := h4 h0
  have hne : b ≠ g := by
    rintro rfl
    obtain ⟨-, p2, c2, h5, -⟩ := hr
    have := hc 0 h0
    rw [(obj_cells h5).1] at this
    cases o with
    | zero => simp at this
    | succ o => simp at this
  exact ⟨b, o, e, Nat.lt_of_lt_of_le hbl hg.size, fun i hi => (World.cell?_of_block (w := w) (hg.block b hbl (fun e' => hne (Option.some.inj e')))).trans (hc i hi)⟩
set_option maxRecDepth 100000 in
set_option maxHeartbeats 8000000 in
theorem refLoad_any (v : Value) (b0 : Txt) (w : World) (h : BySl w v b0) (hb0 : b0.length ≤ 9000) :
    Calls Try.prog 22 #[v] w (RefLoadOut (loadE b0) w) := by
  obtain ⟨N0, hN0⟩ : ∃ N, b0.length = N := ⟨_, rfl⟩
  obtain ⟨p0, c0, rfl⟩ : ∃ p c, v = .slice p N0 c := by obtain ⟨p, c, h, -⟩ := h; exact ⟨p, c, hN0 ▸ h⟩
  have hR : Hid (loadF N0 [] [] b0 = loadE b0) := Lib.hid (by rw [← hN0]; rfl)
  generalize loadE b0 = R at hR ⊢
  rw [hN0] at hb0
  replace hN0 := Lib.hid hN0
  replace h := Lib.hid h
  go_enter Try.func22, Try.ntmps22
  go_wp2_with (go_at_call 28; refine (refNew_any w).mono ?_; rintro e w1 ⟨g, rfl, hg, hK, hb1⟩; replace h := Lib.hid (h.out.below hb1); replace hK := Lib.hid hK; replace hb1 := Lib.hid hb1)
  go_loopw [0, 5] (fun s0 s5 wr => ∃ (p : Option Addr) (N c : Nat) (b last : Txt) (E : Ats) (n : Nat), s0 = .slice p N c ∧ s5 = .string ⟨last.toArray⟩ ∧ Hid (b.length = N) ∧ Hid (BySl wr (.slice p N c) b) ∧ Hid (RfS wr g E) ∧ Hid (loadF n E last b = R) ∧ N ≤ n ∧ N ≤ N0 ∧ Hid (Below w.heap.size w wr)) (fun s0 _ _ => lenOf s0)
  case atStart => exact ⟨p0, N0, c0, b0, [], [], N0, rfl, rfl, hN0, h, hK, hR, Nat.le_refl _, Nat.le_refl _, hb1⟩
  case round =>
    clear h hK hb1 hR hN0
    obtain ⟨p, N, c, b, last, E, n, rfl, rfl, hN, hS, hK, hR, hn, hNN, hB⟩ := hrel
    by_cases hlt : 0 < N
    · have hlti : (0 : Int) < (N : Int) := by omega
      obtain ⟨k0, l, rfl⟩ : ∃ k0 l, b = k0 :: l := by
        cases b with
        | nil => have := hN.out; simp at this; omega
        | cons x t => exact ⟨x, t, rfl⟩
      have hl : l.length = N - 1 := by have := hN.out; simp at this; omega
      obtain ⟨m, rfl, hst⟩ := loadF_step (E := E) (last := last) (b := k0 :: l) (by simp) (n := n) (by rw [hN.out]; exact hn)
      rw [hR.out] at hst
      obtain ⟨K, hKk⟩ : ∃ K, k0.toNat = K := ⟨_, rfl⟩
      have hk256 : K < 256 := by rw [← hKk]; exact k0.toNat_lt
      obtain ⟨p', c', he', hcc, -, hat⟩ := hS.out
      obtain ⟨rfl, -, rfl⟩ := Value.slice.inj he'
      have hNc : N ≤ c := by rw [hN.out] at hcc; exact hcc
      obtain ⟨bb, o, rfl, hbb, hcell⟩ := hat (by simp)
      have d0 := hcell 0 (by simp)
      simp only [List.getElem_cons_zero, Nat.add_zero] at d0
      rw [hKk] at d0
      have w1 : IntKind.i64.wrap (1 + (K : Int)) = 1 + (K : Int) := wrap_small _ (by omega) (by omega)
      have w2 : IntKind.i64.wrap (1 + (K : Int) + 2) = 1 + (K : Int) + 2 := wrap_small _ (by omega) (by omega)
      by_cases hA : N < 1 + K + 2
      · have hAi : (N : Int) < 1 + (K : Int) + 2 := by omega
        obtain rfl : R = none := by
          by_cases h1 : l.length < K
          · rw [stepL_none1 (by rw [hKk]; exact h1)] at hst; exact hst
          · rw [stepL_none2 (by rw [hKk]; exact h1) (by rw [hKk, List.length_drop]; omega)] at hst; exact hst
        clear hcell hat he' hcc hst
        replace hN := Lib.hid hN
        replace hl := Lib.hid hl
        replace hKk := Lib.hid hKk
        go_wp2_with fail
        go_ret2
        exact ⟨hB.out, rfl⟩
      · have hAi : ¬ (N : Int) < 1 + (K : Int) + 2 := by omega
        have hkl : ¬ l.length < k0.toNat := by omega
        obtain ⟨x, y, r2, hr⟩ : ∃ x y r2, l.drop k0.toNat = x :: y :: r2 := by
          have hd : (l.drop k0.toNat).length = N - 1 - K := by rw [List.length_drop, hl, hKk]
          cases hd2 : l.drop k0.toNat with
          | nil => rw [hd2] at hd; simp at hd; omega
          | cons x t =>
            cases t with
            | nil => rw [hd2] at hd; simp at hd; omega
            | cons y r2 => exact ⟨x, y, r2, rfl⟩
        rw [stepL_two hkl hr] at hst
        have hd : r2.length = N - 1 - K - 2 := by
          have : (l.drop k0.toNat).length = N - 1 - K := by rw [List.length_drop, hl, hKk]
          rw [hr] at this
          simp at this
          omega
        have eb : k0 :: l = k0 :: (l.take K ++ x :: y :: r2) := by rw [← hr, hKk, List.take_append_drop]
        have htk : (l.take K).length = K := by rw [List.length_take]; omega
        have dx := hcell (1 + K) (by simp; omega)
        have dy := hcell (2 + K) (by simp; omega)
        have ex : (k0 :: l)[1 + K]'(by simp; omega) = x := by
          have : (k0 :: l)[1 + K]? = some x := by
            rw [eb, show 1 + K = K + 1 by omega, List.getElem?_cons_succ, List.getElem?_append_right (by omega), htk]
            simp
          exact (List.getElem?_eq_some_iff.1 this).2
        have ey : (k0 :: l)[2 + K]'(by simp; omega) = y := by
          have : (k0 :: l)[2 + K]? = some y := by
            rw [eb, show 2 + K = (K + 1) + 1 by omega, List.getElem?_cons_succ, List.getElem?_append_right (by omega), htk]
            simp
          exact (List.getElem?_eq_some_iff.1 this).2
        rw [ex] at dx
        rw [ey] at dy
        rw [hKk] at hst
        have hS1 := hS.out.sub (i := 1) (j := 1 + K) (by omega) (by omega)
        rw [show 1 + K - 1 = K by omega, List.drop_succ_cons, List.drop_zero] at hS1
        have hsl1 := slice_2 (some ⟨bb, o, none⟩) N c 1 (1 + K) 1 (1 + (K : Int)) (by omega) (by omega) (by omega) (by omega)
        rw [show 1 + K - 1 = K by omega] at hsl1
        have hcv1 := hS1.string
        have hcv1d : ∀ n, (convert 26 9 (.slice (fromP (some ⟨bb, o, none⟩) c 1) K (c - 1))).run Try.prog (wr.drewN n) = .ok (.string ⟨(l.take K).toArray⟩) (wr.drewN n) := fun n => BySl.string (hS1.drewN n)
        have hixx := ixb_at bb o N c (1 + K) (1 + (K : Int)) (by omega) (by omega)
        have hixy := ixb_at bb o N c (2 + K) (2 + (K : Int)) (by omega) (by omega)
        have w3 : IntKind.i64.wrap (2 + (K : Int)) = 2 + (K : Int) := wrap_small _ (by omega) (by omega)
        have w4 : IntKind.i64.wrap (3 + (K : Int)) = 3 + (K : Int) := wrap_small _ (by omega) (by omega)
        have hx256 : x.toNat < 256 := x.toNat_lt
        have hy256 : y.toNat < 256 := y.toNat_lt
        have hor := or_run x y
        obtain ⟨V, hV⟩ : ∃ V, x.toNat * 256 + y.toNat = V := ⟨_, rfl⟩
        have hV6 : V < 65536 := by
          omega
        rw [hV] at hst hor
        have w5 : IntKind.i64.wrap (3 + (K : Int) + (V : Int)) = 3 + (K : Int) + (V : Int) := wrap_small _ (by omega) (by omega)
        have hleq := leq_runK last (l.take K)
        have hbr : ∀ i, i ≤ N - (3 + K) → BySl wr (.slice (fromP (some ⟨bb, o, none⟩) c (3 + K)) i (c - (3 + K))) (r2.take i) ∧ BySl wr (.slice (fromP (some ⟨bb, o, none⟩) c (3 + K + i)) (N - (3 + K + i)) (c - (3 + K + i))) (r2.drop i) := fun i hi => by
          have e1 : (k0 :: l).drop (3 + K) = r2 := by
            rw [eb, show 3 + K = K + 2 + 1 by omega, List.drop_succ_cons, List.drop_append, htk]
            simp [htk]
          have s1 := hS.out.sub (i := 3 + K) (j := 3 + K + i) (by omega) (by omega)
          have s2 := hS.out.from (k := 3 + K + i) (by omega)
          rw [show 3 + K + i - (3 + K) = i by omega, e1] at s1
          rw [← List.drop_drop, e1] at s2
          exact ⟨s1, s2⟩
        clear hcell hat he' hcc ex ey eb hr hS1
        generalize l.take K = key at hst hsl1 hcv1 hcv1d hleq htk
        generalize hq1 : fromP (some ⟨bb, o, none⟩) c 1 = q1 at hsl1 hcv1 hcv1d
        replace hq1 := Lib.hid hq1
        replace hN := Lib.hid hN
        replace hl := Lib.hid hl
        replace hKk := Lib.hid hKk
        replace hV := Lib.hid hV
        by_cases hD : r2.length < V
        · have hDi : (N : Int) < 3 + (K : Int) + (V : Int) := by omega
          obtain rfl : R = none := by
            by_cases hC : last < key
            · rw [if_neg (by simpa using hC), if_pos hD] at hst; exact hst
            · rw [if_pos hC] at hst; exact hst
          clear hst hbr
          replace hd := Lib.hid hd
          replace hD := Lib.hid hD
          replace htk := Lib.hid htk
          go_wp2_with fail
          go_big_quiet (fail)
          go_wp2_with fail
          go_ret2
          exact ⟨belowN hB.out _, rfl⟩
        · have hDi : ¬ (N : Int) < 3 + (K : Int) + (V : Int) := by omega
          have hVN : V ≤ N - (3 + K) := by omega
          by_cases hC : last < key
          · rw [if_neg (by simpa using hC), if_neg hD] at hst
            rw [decide_eq_true hC] at hleq
            have hbl : Op.bytesLess last key = true := by rw [bytesLess_eq]; exact decide_eq_true hC
            obtain ⟨hS3, hS4⟩ := hbr V hVN
            have hsl2 := slice_2 (some ⟨bb, o, none⟩) N c (3 + K) (3 + K + V) (3 + (K : Int)) (3 + (K : Int) + (V : Int)) (by omega) (by omega) (by omega) (by omega)
            rw [show 3 + K + V - (3 + K) = V by omega] at hsl2
            have hsl3 := slice_f (some ⟨bb, o, none⟩) N c (3 + K + V) (3 + (K : Int) + (V : Int)) (by omega) (by omega) (by omega)
            have hcv2d : ∀ n, (convert 26 9 (.slice (fromP (some ⟨bb, o, none⟩) c (3 + K)) V (c - (3 + K)))).run Try.prog (wr.drewN n) = .ok (.string ⟨(r2.take V).toArray⟩) (wr.drewN n) := fun n => BySl.string (hS3.drewN n)
            have hvl : (r2.take V).length ≤ 140737488351232 := by rw [List.length_take]; omega
            have hkl2 : key.length ≤ 140737488351232 := by omega
            have hl4 : (r2.drop V).length = N - (3 + K + V) := by rw [List.length_drop, hd]; omega
            have hPut := fun W (h : RfS W g E) => refPut_any g E key (r2.take V) W h hkl2 hvl
            clear hbr hD hd hS3
            generalize r2.take V = val at hst hcv2d hPut hvl
            generalize r2.drop V = r4 at hst hS4 hl4
            generalize fromP (some ⟨bb, o, none⟩) c (3 + K) = q2 at hsl2 hcv2d
            generalize fromP (some ⟨bb, o, none⟩) c (3 + K + V) = q4 at hsl3 hS4
            generalize hN4 : N - (3 + K + V) = N4 at hsl3 hS4 hl4
            have hN4N : N4 < N := by omega
            have hN4m : N4 ≤ m := by omega
            have hN40 : N4 ≤ N0 := by omega
            generalize putE E key val = pr at hst hPut
            obtain ⟨E', cd⟩ := pr
            simp only at hst
            replace hl4 := Lib.hid hl4
            replace htk := Lib.hid htk
            replace hN4 := Lib.hid hN4
            replace hC := Lib.hid hC
            replace hS4 := Lib.hid hS4
            by_cases hE : cd = 0
            · rw [if_neg (by simpa using hE)] at hst
              subst hE
              have hst2 : Hid (loadF m E' key r4 = R) := Lib.hid hst.symm
              clear hst
              replace hPut := Lib.hid hPut
              go_wp2_with fail
              go_big_quiet (fail)
              go_wp2_with (go_at_call 37; refine (hPut.out (wr.drewN _) hK.out).mono ?_; rintro e w3 ⟨rfl, hK3, hg3⟩; replace hK3 := Lib.hid hK3; replace hg3 := Lib.hid hg3)
              refine ⟨⟨q4, N4, _, r4, key, E', m, rfl, rfl, hl4, Lib.hid (BySl.butR (hS4.out.drewN _) hg3.out (show RfS (wr.drewN _) g E from hK.out)), hK3, hst2, hN4m, hN40, Lib.hid ((belowN hB.out _).grown hg3.out hB.out.size (fun k e => by cases e; exact hg))⟩, hN4N⟩
            · rw [if_pos hE] at hst
              obtain rfl : R = none := hst
              have hcd : (cd == 0) = false := by simpa using hE
              replace hE := Lib.hid hE
              replace hPut := Lib.hid hPut
              go_wp2_with fail
              go_big_quiet (fail)
              go_wp2_with (go_at_call 37; refine (hPut.out (wr.drewN _) hK.out).mono ?_; rintro e w3 ⟨rfl, hK3, hg3⟩; replace hK3 := Lib.hid hK3; replace hg3 := Lib.hid hg3)
              go_ret2
              exact ⟨(belowN hB.out _).grown hg3.out hB.out.size (fun k e => by cases e; exact hg), rfl⟩
          · rw [if_pos hC] at hst
            obtain rfl : R = none := hst
            rw [decide_eq_false hC] at hleq
            have hbl : Op.bytesLess last key = false := by rw [bytesLess_eq]; exact decide_eq_false hC
            replace hC := Lib.hid hC
            clear hbr
            replace hd := Lib.hid hd
            replace hD := Lib.hid hD
            replace htk := Lib.hid htk
            go_wp2_with fail
            go_big_quiet (fail)
            go_wp2_with fail
            go_ret2
            exact ⟨belowN hB.out _, rfl⟩
    · obtain rfl : b = [] := List.length_eq_zero_iff.1 (by rw [hN.out]; omega)
      have hR' : R = some E := by
        rw [← hR.out]
        cases n <;> simp [loadF]
      subst hR'
      have hNz : N = 0 := by omega
      subst hNz
      go_wp2_with fail
      go_ret2
      exact ⟨hB.out, g, rfl, hg, hK.out⟩
end Go.Proofs.Ytfeiihmhdcnabaa
