/-
  Load, by the program. Condition: bytes within the reach.
-/
import Derived.Test.YtfeiihmhdcnabaaKvCut
import Derived.Test.YtfeiihmhdcnabaaKvLoadP
import Derived.BigQuiet
import Derived.Deep.QuietTactic
namespace Go.Proofs.Ytfeiihmhdcnabaa
set_option linter.unusedVariables false
set_option linter.unusedSimpArgs false
open Go.RowKit Go.MapKept
theorem BySl.drewN {w : World} {v : Value} {l : List UInt8} (h : BySl w v l) (n : Nat) : BySl (w.drewN n) v l := h
theorem slice_from1 (p : Option Addr) (n c : Nat) (hn : 1 ≤ n) (hc : n ≤ c) (W : World) : (Instr.slice 26 (.slice p n c) (some (.int .i64 1)) none none).run Try.prog W = .ok (.slice (fromP p c 1) (n - 1) (c - 1)) W := by
  have h1 : (1 : Int) ≤ (n : Int) := by omega
  have h2 : (n : Int) ≤ (c : Int) := by omega
  unfold fromP
  simp [go_sem, h1, h2]
/-- the second word of an answer of cut that failed is nil -/
theorem by_nil (w : World) : BySl w (.slice none 0 0) [] := ⟨none, 0, rfl, by simp, by simp, fun h => absurd h (by simp)⟩
theorem str_ix (l : Txt) (k : Nat) (h : k < l.length) (W : World) : (Instr.index 9 (.string ⟨l.toArray⟩) (.int .i64 (k : Int))).run Try.prog W = .ok (.int .u8 ((l[k]'h).toNat : Int)) W := by
  have h0 : (0 : Int) ≤ (k : Int) := by omega
  have h1 : (k : Int) < (l.length : Int) := by omega
  simp [go_sem, h0, h1, h, mk_get]
theorem str_at (x y : UInt8) (W : World) : (Instr.index 9 (.string ⟨#[x, y]⟩) (.int .i64 0)).run Try.prog W = .ok (.int .u8 (x.toNat : Int)) W ∧ (Instr.index 9 (.string ⟨#[x, y]⟩) (.int .i64 1)).run Try.prog W = .ok (.int .u8 (y.toNat : Int)) W :=
  ⟨str_ix [x, y] 0 (by simp) W, str_ix [x, y] 1 (by simp) W⟩
def lenOf : Value → Nat
  | .slice _ n _ => n
  | _ => 0
theorem BySl.but {w w' : World} {v : Value} {l : List UInt8} {b' : Nat} (h : BySl w v l) (hg : w.grownBy w' (some b')) (hn : ∀ o, w.cell? ⟨b', o, none⟩ = none) : BySl w' v l := by
  obtain ⟨p, c, h1, h2, h3, h4⟩ := h
  refine ⟨p, c, h1, h2, h3, fun h0 => ?_⟩
  obtain ⟨b, o, e, hbl, hc⟩ := h4 h0
  have hne : b ≠ b' := fun e' => by
    have := hc 0 h0
    rw [e', hn] at this
    cases this
  exact ⟨b, o, e, Nat.lt_of_lt_of_le hbl hg.size, fun i hi => (World.cell?_of_block (w := w) (hg.block b hbl (fun e' => hne (Option.some.inj e')))).trans (hc i hi)⟩
theorem KvS.no_cell {w : World} {g b : Nat} {E : Ats} (h : KvS w g b E) : ∀ o, w.cell? ⟨b, o, none⟩ = none := by
  obtain ⟨-, -, es, cl, h1, -⟩ := h
  intro o
  simp [World.cell?, h1]
def KvLoadOut (R : Option Ats) (w : World) (e : Ending) (w' : World) : Prop :=
  Below w.heap.size w w' ∧ match R with
    | none => e = .returned (.tuple #[.pointer none, .int .i64 3])
    | some E => ∃ g b, e = .returned (.tuple #[.pointer (some ⟨g, 0, none⟩), .int .i64 0]) ∧ w.heap.size ≤ g ∧ w.heap.size ≤ b ∧ KvS w' g b E
theorem leq_runK (a b : Txt) (W : World) : (binOp .leq 9 (.string ⟨b.toArray⟩) (.string ⟨a.toArray⟩)).run Try.prog W = .ok (.bool (!decide (a < b))) W := by
  have h : (decide (b < a) || b == a) = !decide (a < b) := by
    rcases tl_tri a b with h | h | h
    · have h1 : ¬ b < a := fun h' => tl_irrefl a (tl_trans h h')
      have h2 : ¬ b = a := fun e => tl_irrefl a (e ▸ h)
      simp [h, h1, h2]
    · subst h
      simp [tl_irrefl a]
    · have h1 : ¬ a < b := fun h' => tl_irrefl a (tl_trans h' h)
      simp [h, h1]
  simp [binOp, Op.stringOp, bytesLess_eq, Lib.toList_data, h]
/-- one step of the spec, its cases -/
theorem stepL_none1 {E : Ats} {last l : Txt} {c : UInt8} (h : l.length < c.toNat) : stepL E last (c :: l) = none := by
  unfold stepL
  simp only [List.drop_succ_cons, List.drop_zero, List.getD_cons_zero]
  rw [if_pos h]
theorem stepL_none2 {E : Ats} {last l : Txt} {c : UInt8} (h1 : ¬ l.length < c.toNat) (h : (l.drop c.toNat).length < 2) : stepL E last (c :: l) = none := by
  unfold stepL
  simp only [List.drop_succ_cons, List.drop_zero, List.getD_cons_zero]
  rw [if_neg h1, if_pos h]
theorem stepL_two {E : Ats} {last l r2 : Txt} {c x y : UInt8} (h1 : ¬ l.length < c.toNat) (hr : l.drop c.toNat = x :: y :: r2) :
    stepL E last (c :: l) = if ¬ last < l.take c.toNat then none else if r2.length < x.toNat * 256 + y.toNat then none else if (putE E (l.take c.toNat) (r2.take (x.toNat * 256 + y.toNat))).2 ≠ 0 then none
      else some ((putE E (l.take c.toNat) (r2.take (x.toNat * 256 + y.toNat))).1, l.take c.toNat, r2.drop (x.toNat * 256 + y.toNat)) := by
  unfold stepL
  simp only [List.drop_succ_cons, List.drop_zero, List.getD_cons_zero, hr, List.getD_cons_succ]
  rw [if_neg h1, if_neg (by simp)]
theorem loadF_step {n : Nat} {E : Ats} {last b : Txt} (hb : b ≠ []) (hn : b.length ≤ n) : ∃ m, n = m + 1 ∧ loadF n E last b = match stepL E last b with
    | none => none
    | some q => loadF m q.1 q.2.1 q.2.2 := by
  cases n with
  | zero => exact absurd (List.length_eq_zero_iff.1 (by omega)) hb
  | succ m =>
    refine ⟨m, rfl, ?_⟩
    show (if b = [] then some E else _) = _
    rw [if_neg hb]
    cases stepL E last b <;> rfl
theorem quiet_of2 {P : Program} {f : FuncId} {args : Array Value} {w : World} {k n : Nat} {v : Value}
    (h : Calls P f args (w.drewN (k + n)) fun e w' => e = .returned v ∧ ∃ m, w' = (w.drewN (k + n)).drewN m) : Calls P f args (w.drewN (k + n)) fun e w'' => e = .returned v ∧ ∃ m, w'' = w.drewN (k + m) :=
  h.mono fun _ _ ⟨he, m, hm⟩ => ⟨he, n + m, by rw [hm, World.drewN_drewN, Nat.add_assoc]⟩
set_option maxRecDepth 100000 in
set_option maxHeartbeats 8000000 in
theorem kvLoad_any (v : Value) (b0 : Txt) (w : World) (h : BySl w v b0) (hb0 : b0.length ≤ 140737488351232) :
    Calls Try.prog 21 #[v] w (KvLoadOut (loadE b0) w) := by
  obtain ⟨N0, hN0⟩ : ∃ N, b0.length = N := ⟨_, rfl⟩
  obtain ⟨p0, c0, rfl⟩ : ∃ p c, v = .slice p N0 c := by obtain ⟨p, c, h, -⟩ := h; exact ⟨p, c, hN0 ▸ h⟩
  have hR : Hid (loadF N0 [] [] b0 = loadE b0) := Lib.hid (by rw [← hN0]; rfl)
  generalize loadE b0 = R at hR ⊢
  rw [hN0] at hb0
  replace hN0 := Lib.hid hN0
  replace h := Lib.hid h
  go_enter Try.func21, Try.ntmps21
  go_wp2_with (go_at_call 12; refine (new_any w).mono ?_; rintro e w1 ⟨g, bm, rfl, hg, hbm, hK, hb1⟩; replace h := Lib.hid (h.out.below hb1); replace hK := Lib.hid hK; replace hb1 := Lib.hid hb1)
  go_loopw [0, 5] (fun s0 s5 wr => ∃ (p : Option Addr) (N c : Nat) (b last : Txt) (E : Ats) (n : Nat), s0 = .slice p N c ∧ s5 = .string ⟨last.toArray⟩ ∧ Hid (b.length = N) ∧ Hid (BySl wr (.slice p N c) b) ∧ Hid (KvS wr g bm E) ∧ Hid (loadF n E last b = R) ∧ N ≤ n ∧ N ≤ N0 ∧ Hid (Below w.heap.size w wr)) (fun s0 _ _ => lenOf s0)
  case atStart => exact ⟨p0, N0, c0, b0, [], [], N0, rfl, rfl, hN0, h, hK, hR, Nat.le_refl _, Nat.le_refl _, hb1⟩
  case round =>
    clear h hK hb1 hR hN0
    obtain ⟨p, N, c, b, last, E, n, rfl, rfl, hN, hS, hK, hR, hn, hNN, hB⟩ := hrel
    by_cases hlt : 0 < N
    · have hlti : (0 : Int) < (N : Int) := by omega
      obtain ⟨k0, l, rfl⟩ : ∃ k0 l, b = k0 :: l := by
        cases b with
        | nil => have := hN.out; simp at this; omega
        | cons x t => exact ⟨x, t, rfl⟩
      have hl : l.length = N - 1 := by have := hN.out; simp at this; omega
      obtain ⟨m, rfl, hst⟩ := loadF_step (E := E) (last := last) (b := k0 :: l) (by simp) (n := n) (by rw [hN.out]; exact hn)
      rw [hR.out] at hst
      have hk256 := k0.toNat_lt
      have hS1 : BySl wr (.slice (fromP p c 1) (N - 1) (c - 1)) l := hS.out.from (k := 1) (by omega)
      obtain ⟨p', c', he', hcc, -, hat⟩ := hS.out
      obtain ⟨rfl, -, rfl⟩ := Value.slice.inj he'
      have hNc : N ≤ c := by rw [hN.out] at hcc; exact hcc
      obtain ⟨bb, o, rfl, hbb, hcell⟩ := hat (by simp)
      have d0 := hcell 0 (by simp)
      simp only [List.getElem_cons_zero, Nat.add_zero] at d0
      clear hcell hat he' hcc
      have hsl := slice_from1 (some ⟨bb, o, none⟩) N c (by omega) hNc
      generalize fromP (some ⟨bb, o, none⟩) c 1 = q1 at hS1 hsl
      generalize hcq : c - 1 = c1 at hS1 hsl
      generalize hNq : N - 1 = N1 at hS1 hsl hl
      have hN1 : N1 + 1 = N := by omega
      clear hcq hNq
      replace hN1 := Lib.hid hN1
      replace hN := Lib.hid hN.out
      by_cases hA : l.length < k0.toNat
      · rw [stepL_none1 hA] at hst
        obtain rfl : R = none := hst
        have hc1 : ∀ m', Calls Try.prog 36 #[.slice q1 N1 c1, .int .i64 (k0.toNat : Int)] (wr.drewN m') fun e w' => e = .returned (.tuple #[.string ⟨#[]⟩, .slice none 0 0, .bool false]) ∧ w' = wr.drewN m' := fun m' => (cut_no _ l k0.toNat _ (hS1.drewN m') hA).mono fun e w' ⟨h1, h2⟩ => ⟨h1, h2.symm⟩
        have hc2 : ∀ W1 : World, Calls Try.prog 36 #[.slice none 0 0, .int .i64 2] W1 fun e w' => e = .returned (.tuple #[.string ⟨#[]⟩, .slice none 0 0, .bool false]) ∧ W1 = w' := fun W1 => cut_no _ [] 2 W1 (by_nil W1) (by simp)
        replace hc2 := Lib.hid hc2
        replace hl := Lib.hid hl
        clear hS1 hA
        go_wp2_with fail
        go_quiet ((go_at_call 36; exact Calls.quiet_of_same (hc1 _)))
        go_wp2_with (go_at_call 36; refine (hc2.out _).mono ?_; rintro e w2 ⟨rfl, rfl⟩)
        go_ret2
        exact ⟨belowN hB.out _, rfl⟩
      · have hkl : k0.toNat ≤ l.length := by omega
        have hc1 : ∀ m', Calls Try.prog 36 #[.slice q1 N1 c1, .int .i64 (k0.toNat : Int)] (wr.drewN m') fun e w' => e = .returned (.tuple #[.string ⟨(l.take k0.toNat).toArray⟩, .slice (fromP q1 c1 k0.toNat) (N1 - k0.toNat) (c1 - k0.toNat), .bool true]) ∧ ∃ m, w' = (wr.drewN m').drewN m := fun m' => by
          have := cut_q q1 l c1 k0.toNat (wr.drewN m') (by rw [hl]; exact hS1.drewN m') hkl
          rwa [hl] at this
        have hS2 : BySl wr (.slice (fromP q1 c1 k0.toNat) (N1 - k0.toNat) (c1 - k0.toNat)) (l.drop k0.toNat) := hS1.from (by omega)
        have hl2 : (l.drop k0.toNat).length = N1 - k0.toNat := by rw [List.length_drop, hl]
        generalize fromP q1 c1 k0.toNat = q2 at hc1 hS2
        generalize hN2 : N1 - k0.toNat = N2 at hc1 hS2 hl2
        generalize c1 - k0.toNat = c2 at hc1 hS2
        have hN2' : N2 ≤ N0 := by have := hN1.out; omega
        have hN2m : N2 ≤ m := by have := hN1.out; omega
        have hN2N : N2 < N := by have := hN1.out; omega
        clear hN2
        have hkey : (l.take k0.toNat).length ≤ 255 := by rw [List.length_take]; omega
        replace hl := Lib.hid hl
        by_cases hBd : (l.drop k0.toNat).length < 2
        · rw [stepL_none2 hA hBd] at hst
          obtain rfl : R = none := hst
          have hc2 : ∀ m', Calls Try.prog 36 #[.slice q2 N2 c2, .int .i64 2] (wr.drewN m') fun e w' => e = .returned (.tuple #[.string ⟨#[]⟩, .slice none 0 0, .bool false]) ∧ wr.drewN m' = w' := fun m' => cut_no _ (l.drop k0.toNat) 2 _ (hS2.drewN m') hBd
          replace hc2 := Lib.hid hc2
          replace hl2 := Lib.hid hl2
          clear hS1 hA hBd
          generalize l.take k0.toNat = key at hc1
          go_wp2_with fail
          go_quiet ((go_at_call 36; exact Calls.quiet_of (hc1 _)))
          go_wp2_with (go_at_call 36; refine (hc2.out _).mono ?_; rintro e w2 ⟨rfl, rfl⟩)
          go_ret2
          exact ⟨belowN hB.out _, rfl⟩
        · obtain ⟨x, y, r2, hr⟩ : ∃ x y r2, l.drop k0.toNat = x :: y :: r2 := by
            cases hd : l.drop k0.toNat with
            | nil => rw [hd] at hBd; simp at hBd
            | cons x t =>
              cases t with
              | nil => rw [hd] at hBd; simp at hBd
              | cons y r2 => exact ⟨x, y, r2, rfl⟩
          rw [stepL_two hA hr] at hst
          rw [hr] at hS2 hl2
          have h2N : 2 ≤ N2 := by simp at hl2; omega
          have hc2 : ∀ m', Calls Try.prog 36 #[.slice q2 N2 c2, .int .i64 2] (wr.drewN m') fun e w' => e = .returned (.tuple #[.string ⟨#[x, y]⟩, .slice (fromP q2 c2 2) (N2 - 2) (c2 - 2), .bool true]) ∧ ∃ m, w' = (wr.drewN m').drewN m := fun m' => by
            have := cut_q q2 (x :: y :: r2) c2 2 (wr.drewN m') (by rw [hl2]; exact hS2.drewN m') (by simp)
            rwa [hl2] at this
          have hS3 : BySl wr (.slice (fromP q2 c2 2) (N2 - 2) (c2 - 2)) r2 := hS2.from h2N
          have hl3 : r2.length = N2 - 2 := by simp at hl2; omega
          clear hBd hA hr hS1 hS2 hl2
          generalize l.take k0.toNat = key at hc1 hst hkey
          generalize fromP q2 c2 2 = q3 at hc2 hS3
          generalize hN3 : N2 - 2 = N3 at hc2 hS3 hl3
          generalize c2 - 2 = c3 at hc2 hS3
          have hN3' : N3 ≤ N0 := by omega
          have hN3m : N3 ≤ m := by omega
          have hN3N : N3 < N := by omega
          clear hN3
          replace hc2 := Lib.hid hc2
          have hleq := leq_runK last key
          by_cases hC : last < key
          · rw [if_neg (by simpa using hC)] at hst
            rw [decide_eq_true hC] at hleq
            have hbl : Op.bytesLess last key = true := by rw [bytesLess_eq]; exact decide_eq_true hC
            replace hC := Lib.hid hC
            have hs0 := fun W => (str_at x y W).1
            have hs1 := fun W => (str_at x y W).2
            have hx256 : x.toNat < 256 := x.toNat_lt
            have hy256 : y.toNat < 256 := y.toNat_lt
            obtain ⟨V, hV⟩ : ∃ V, x.toNat * 256 + y.toNat = V := ⟨_, rfl⟩
            have hm1 : IntKind.i64.wrap ((x.toNat : Int) * 256) = (x.toNat : Int) * 256 := wrap_small _ (by omega) (by omega)
            have hm2 : IntKind.i64.wrap ((x.toNat : Int) * 256 + (y.toNat : Int)) = (V : Int) := by rw [← hV, wrap_small _ (by omega) (by omega)]; omega
            rw [hV] at hst
            clear hV
            by_cases hD : r2.length < V
            · rw [if_pos hD] at hst
              obtain rfl : R = none := hst
              have hc3 : ∀ a, Calls Try.prog 36 #[.slice q3 N3 c3, .int .i64 (V : Int)] (wr.drewN a) fun e w' => e = .returned (.tuple #[.string ⟨#[]⟩, .slice none 0 0, .bool false]) ∧ ∃ m, w' = (wr.drewN a).drewN m := fun a => (cut_no _ r2 V _ (hS3.drewN a) hD).mono fun e w' ⟨h1, h2⟩ => ⟨h1, 0, h2.symm⟩
              clear hD hS3
              replace hl3 := Lib.hid hl3
              go_wp2_with fail
              go_quiet ((go_at_call 36; exact Calls.quiet_of (hc1 _)))
              go_wp2_with (go_at_call 36; refine (hc2.out _).mono ?_; rintro e w2 ⟨rfl, m2, rfl⟩; rw [World.drewN_drewN])
              go_quiet ((go_at_call 36; exact quiet_of2 (hc3 _)))
              go_wp2_with fail
              go_ret2
              exact ⟨belowN hB.out _, rfl⟩
            · rw [if_neg hD] at hst
              have hc3 : ∀ a, Calls Try.prog 36 #[.slice q3 N3 c3, .int .i64 (V : Int)] (wr.drewN a) fun e w' => e = .returned (.tuple #[.string ⟨(r2.take V).toArray⟩, .slice (fromP q3 c3 V) (N3 - V) (c3 - V), .bool true]) ∧ ∃ m, w' = (wr.drewN a).drewN m := fun a => by
                have := cut_q q3 r2 c3 V (wr.drewN a) (by rw [hl3]; exact hS3.drewN a) (by omega)
                rwa [hl3] at this
              have hS4 : BySl wr (.slice (fromP q3 c3 V) (N3 - V) (c3 - V)) (r2.drop V) := hS3.from (by omega)
              have hl4 : (r2.drop V).length = N3 - V := by rw [List.length_drop, hl3]
              have hvl : (r2.take V).length ≤ 140737488351232 := by rw [List.length_take]; omega
              clear hD hS3 hl3
              generalize r2.take V = val at hc3 hst hvl
              generalize r2.drop V = r4 at hst hS4 hl4
              generalize fromP q3 c3 V = q4 at hc3 hS4
              generalize hN4 : N3 - V = N4 at hc3 hS4 hl4
              generalize c3 - V = c4 at hc3 hS4
              have hN4' : N4 ≤ N0 := by omega
              have hN4m : N4 ≤ m := by omega
              have hN4N : N4 < N := by omega
              clear hN4
              have hPut := fun W (h : KvS W g bm E) => put_any g bm E key val W h (by omega) hvl
              generalize putE E key val = pr at hst hPut
              obtain ⟨E', cd⟩ := pr
              simp only at hst
              replace hl4 := Lib.hid hl4
              by_cases hE : cd = 0
              · rw [if_neg (by simpa using hE)] at hst
                subst hE
                have hst2 : Hid (loadF m E' key r4 = R) := Lib.hid hst.symm
                clear hst
                replace hPut := Lib.hid hPut
                go_wp2_with fail
                go_quiet ((go_at_call 36; exact Calls.quiet_of (hc1 _)))
                go_wp2_with (go_at_call 36; refine (hc2.out _).mono ?_; rintro e w2 ⟨rfl, m2, rfl⟩; rw [World.drewN_drewN])
                go_quiet ((go_at_call 36; exact quiet_of2 (hc3 _)))
                go_wp2_with (go_at_call 13; refine (hPut.out (wr.drewN _) hK.out).mono ?_; rintro e w3 ⟨rfl, hK3, hg3⟩; replace hK3 := Lib.hid hK3; replace hg3 := Lib.hid hg3)
                refine ⟨⟨q4, N4, c4, r4, key, E', m, rfl, rfl, hl4, Lib.hid (BySl.but (hS4.drewN _) hg3.out (fun o => KvS.no_cell (w := wr) hK.out o)), hK3, hst2, hN4m, hN4', Lib.hid ((belowN hB.out _).grown hg3.out hB.out.size (fun k e => by cases e; exact hbm))⟩, hN4N⟩
              · rw [if_pos hE] at hst
                obtain rfl : R = none := hst
                have hcd : (cd == 0) = false := by simpa using hE
                replace hE := Lib.hid hE
                replace hPut := Lib.hid hPut
                go_wp2_with fail
                go_quiet ((go_at_call 36; exact Calls.quiet_of (hc1 _)))
                go_wp2_with (go_at_call 36; refine (hc2.out _).mono ?_; rintro e w2 ⟨rfl, m2, rfl⟩; rw [World.drewN_drewN])
                go_quiet ((go_at_call 36; exact quiet_of2 (hc3 _)))
                go_wp2_with (go_at_call 13; refine (hPut.out (wr.drewN _) hK.out).mono ?_; rintro e w3 ⟨rfl, hK3, hg3⟩; replace hK3 := Lib.hid hK3; replace hg3 := Lib.hid hg3)
                go_ret2
                exact ⟨(belowN hB.out _).grown hg3.out hB.out.size (fun k e => by cases e; exact hbm), rfl⟩
          · rw [if_pos hC] at hst
            obtain rfl : R = none := hst
            rw [decide_eq_false hC] at hleq
            have hbl : Op.bytesLess last key = false := by rw [bytesLess_eq]; exact decide_eq_false hC
            replace hC := Lib.hid hC
            clear hS3
            replace hl3 := Lib.hid hl3
            go_wp2_with fail
            go_quiet ((go_at_call 36; exact Calls.quiet_of (hc1 _)))
            go_wp2_with (go_at_call 36; refine (hc2.out _).mono ?_; rintro e w2 ⟨rfl, m2, rfl⟩)
            go_ret2
            exact ⟨belowN hB.out _, rfl⟩
    · obtain rfl : b = [] := List.length_eq_zero_iff.1 (by rw [hN.out]; omega)
      have hR' : R = some E := by
        rw [← hR.out]
        cases n <;> simp [loadF]
      subst hR'
      have hNz : N = 0 := by omega
      subst hNz
      go_wp2_with fail
      go_ret2
      exact ⟨hB.out, g, bm, rfl, hg, hbm, hK.out⟩
end Go.Proofs.Ytfeiihmhdcnabaa
