/-
  Who is told of a node, by the program (collect.Fan). Conditions: at most 1000 nodes, each with at most 1000 affiliations and subscriptions; texts within the reach.
-/
import Derived.Test.YtoijpjmkjhoiaaaFnSort
import Derived.Deep.DeepCutAuto
import Derived.Maps.AppendAt
import Derived.OwnWalk
import Derived.Scope
namespace Go.Proofs.Ytoijpjmkjhoiaaa
set_option linter.unusedVariables false
set_option linter.unusedSimpArgs false
open Go.RowKit Go.MapKept Go.Maps Go.WideMaps Go.ChangeMaps
theorem grown_of {w w' : World} (h : Below w.heap.size w w') : w.grownBy w' none := ⟨h.os, h.tape, h.output, h.size, fun i hi _ => h.block i hi⟩
theorem below_of {w w' : World} {n : Nat} {row : Option Nat} (h : w.grownBy w' row) (hn : n ≤ w.heap.size) (hr : ∀ k, row = some k → n ≤ k) : Below n w w' := (Below.refl n w).grown h hn hr
theorem grown_then {a b c : World} {row : Nat} (h : a.grownBy b (some row)) (k : b.grownBy c (some row)) : a.grownBy c (some row) := h.andThen k (fun j e => .inr e)
theorem grown_then0 {a b c : World} {row : Nat} (h : a.grownBy b (some row)) (k : b.grownBy c none) : a.grownBy c (some row) := h.andThen k (fun j e => by cases e)
theorem AtM.mono {w : World} {b n m : Nat} {l : List Nd} (h : AtM w b n l) (hm : n ≤ m) : AtM w b m l := by obtain ⟨D, h1, h2⟩ := h; exact ⟨D, h1.mono hm, h2⟩
theorem AtM.same {w : World} {b n : Nat} {l l' : List Nd} (h : AtM w b n l) (hl : ∀ x, idxN l' x = idxN l x) : AtM w b n l' := by obtain ⟨D, h1, h2⟩ := h; exact ⟨D, h1, fun x => by rw [hl]; exact h2 x⟩
theorem cells8 {w : World} {b o k : Nat} {n : Nd} {afv sbv itv : Value} (h : ∀ j u, (ndC n afv sbv itv)[j]? = some u → w.cell? ⟨b, o + k * 8 + j, none⟩ = some u) :
    w.cell? ⟨b, o + k * 8, none⟩ = some (.string ⟨n.nm.toArray⟩) ∧ w.cell? ⟨b, o + k * 8 + 1, none⟩ = some (.bool n.co) ∧ w.cell? ⟨b, o + k * 8 + 2, none⟩ = some (.int .u8 n.ac) ∧ w.cell? ⟨b, o + k * 8 + 3, none⟩ = some (.int .i64 n.mx) ∧
    w.cell? ⟨b, o + k * 8 + 4, none⟩ = some afv ∧ w.cell? ⟨b, o + k * 8 + 5, none⟩ = some sbv ∧ w.cell? ⟨b, o + k * 8 + 6, none⟩ = some itv ∧ w.cell? ⟨b, o + k * 8 + 7, none⟩ = some (.string ⟨n.pa.toArray⟩) :=
  ⟨h 0 _ rfl, h 1 _ rfl, h 2 _ rfl, h 3 _ rfl, h 4 _ rfl, h 5 _ rfl, h 6 _ rfl, h 7 _ rfl⟩
/-- a node of a row, at some later moment -/
theorem NdS.at {w : World} {p : Option Addr} {c N : Nat} {l : List Nd} (h : NdS w (.slice p N c) l) (hN : l.length = N) {k : Nat} (hk : k < N) :
    ∃ b o afp afc sbp sbc itp itn itc, p = some ⟨b, o, none⟩ ∧ b < w.heap.size ∧ N ≤ c ∧ ∀ W, Below w.heap.size w W → ∃ n, l[k]? = some n ∧ (W.cell? ⟨b, o + k * 8, none⟩ = some (.string ⟨n.nm.toArray⟩) ∧ W.cell? ⟨b, o + k * 8 + 1, none⟩ = some (.bool n.co) ∧ W.cell? ⟨b, o + k * 8 + 2, none⟩ = some (.int .u8 n.ac) ∧ W.cell? ⟨b, o + k * 8 + 3, none⟩ = some (.int .i64 n.mx) ∧
      W.cell? ⟨b, o + k * 8 + 4, none⟩ = some (.slice afp n.af.length afc) ∧ W.cell? ⟨b, o + k * 8 + 5, none⟩ = some (.slice sbp n.sb.length sbc) ∧ W.cell? ⟨b, o + k * 8 + 6, none⟩ = some (.slice itp itn itc) ∧ W.cell? ⟨b, o + k * 8 + 7, none⟩ = some (.string ⟨n.pa.toArray⟩)) ∧
      AfS W (.slice afp n.af.length afc) n.af ∧ SuS W (.slice sbp n.sb.length sbc) n.sb := by
  subst hN
  obtain ⟨ptr, cap, e, h1, -, h2⟩ := h
  obtain ⟨rfl, -, rfl⟩ := Value.slice.inj e
  obtain ⟨b, o, rfl, hb, hc⟩ := h2 (by omega)
  obtain ⟨afv, sbv, itv, hcell, ha, hs, itp, itn, itc, rfl⟩ := hc k hk
  obtain ⟨afp, afc, rfl, -⟩ := id ha
  obtain ⟨sbp, sbc, rfl, -⟩ := id hs
  refine ⟨b, o, afp, afc, sbp, sbc, itp, itn, itc, rfl, hb, h1, fun W hW => ⟨l[k]'hk, List.getElem?_eq_getElem hk, cells8 fun j u hu => (hW.cell (p := ⟨b, _, none⟩) hb).trans (hcell j u hu), ha.below hW, hs.below hW⟩⟩
theorem infoTx : ∃ i, Try.prog.info? 9 = some i ∧ i.zero = some (.string ⟨#[]⟩) ∧ i.size = 1 ∧ i.bytes = 16 := by
  have h : (Try.prog.info? 9).map (fun i => (i.zero, i.size, i.bytes)) = some (some (.string ⟨#[]⟩), 1, 16) := by kernel_rfl
  cases hi : Try.prog.info? 9 with
  | none => rw [hi] at h; cases h
  | some i => rw [hi] at h; simp only [Option.map_some, Option.some.injEq, Prod.mk.injEq] at h; exact ⟨i, rfl, h⟩
theorem cell_onx (W : World) (u : Value) (t : TypeId) : ∀ j z, [u][j]? = some z → (W.alloc (.cells #[u] t)).cell? ((⟨W.heap.size, 0, none⟩ : Addr).add j) = some z := fun j z hj => by
  have h0 : j = 0 := by
    have := (List.getElem?_eq_some_iff.1 hj).1
    simpa using this
  subst h0
  rw [Addr.add_lit, (obj_cells (heap_alloc W _).1).1]
  simpa using hj
theorem owns_shx {w : World} {base : Nat} {e : TypeId} {size : Nat} {v : Value} {n : Nat} {xs : List Value} (h : w.ownsRow base e size v n xs) : ∃ a c, v = .slice a n c := by
  rcases h.2 with ⟨rfl, h0⟩ | ⟨g, cap, cur, rfl, _⟩
  · exact ⟨none, 0, by rw [h0]⟩
  · exact ⟨_, _, rfl⟩
/-- texts without one twice, sorted, rise -/
theorem sort_rise {l : List Tx} (h : l.Nodup) : (l.mergeSort fun x y => decide (x ≤ y)).Pairwise (fun a b => a < b) := by
  have tr : ∀ a b c : Tx, decide (a ≤ b) = true → decide (b ≤ c) = true → decide (a ≤ c) = true := fun a b c h1 h2 => by simp only [decide_eq_true_eq] at *; exact List.le_trans h1 h2
  have tot : ∀ a b : Tx, (decide (a ≤ b) || decide (b ≤ a)) = true := fun a b => by simp only [Bool.or_eq_true, decide_eq_true_eq]; exact List.le_total a b
  have hp := List.pairwise_mergeSort tr tot l
  have hn : (l.mergeSort fun x y => decide (x ≤ y)).Nodup := (List.mergeSort_perm l _).nodup_iff.2 h
  refine (List.Pairwise.and hp hn).imp fun {a b} ⟨h1, h2⟩ => ?_
  simp only [decide_eq_true_eq] at h1
  rcases List.le_total a b with _ | h3
  · by_cases h4 : a < b
    · exact h4
    · exact absurd (List.le_antisymm h1 (by exact h4)) h2
  · exact absurd (List.le_antisymm h1 h3) h2
set_option maxRecDepth 100000 in
theorem key_inv {key : Value} {kl : Lit} (h : keyOf Try.prog 9 key = some kl) : ∃ x : ByteArray, key = .string x ∧ kl = .string x.data.toList := by
  cases key <;> simp [keyOf, Try.underlying9, mapKey] at h
  exact ⟨_, rfl, h.2.symm⟩
set_option maxRecDepth 100000 in
theorem rb_inv {v : Value} {y : DataW Unit × List MemPlace} (h : RB v = some y) : ∃ c, v = .bool c := by
  unfold RB plainElem at h
  rw [Try.underlying4] at h
  cases v <;> simp at h
  exact ⟨_, rfl⟩
theorem bare_nd (w : World) (o : Obj) : (w.alloc o).heap[w.heap.size]? = some o := (heap_alloc w o).1
set_option maxRecDepth 100000 in
set_option maxHeartbeats 8000000 in
theorem fan_any (v : Value) (l : List Nd) (s : Tx) (w : World) (R : List Tx) (hS : NdS w v l) (hl : l.length ≤ 1000) (hs : s.length ≤ 140737488351232) (hsm : ∀ n ∈ l, n.small) (hR : fanN l s = some R) :
    Calls Try.prog 7 #[v, .string ⟨s.toArray⟩] w fun e w' => ∃ v' L, e = .returned v' ∧ TxS w' v' L ∧ L.Pairwise (fun a b => a < b) ∧ (∀ x, x ∈ L ↔ x ∈ R) ∧ Below w.heap.size w w' := by
  have hmm := @run_makeMap Try.prog
  obtain ⟨N, hN⟩ : ∃ N, l.length = N := ⟨_, rfl⟩
  obtain ⟨vp, vc, rfl⟩ : ∃ a c, v = .slice a N c := by obtain ⟨a, c, h, -⟩ := hS; exact ⟨a, c, hN ▸ h⟩
  have hN1 : N ≤ 1000 := by omega
  have hNmax : (N : Int) ≤ 9223372036854775807 := by omega
  have hsm1 := Lib.hid hsm
  have hR1 := Lib.hid hR
  have hS1 := Lib.hid hS
  have hN0 := Lib.hid hN
  clear hsm hR hS hN hl
  go_enter Try.func7, Try.ntmps7
  go_wp2
  refine wp_scope_straight ?_
  go_wp2
  go_loopw [25] (fun s25 wr => ∃ k : Nat, k ≤ N ∧ s25 = .int .i64 k ∧ Hid (AtM wr w.heap.size k (l.take k)) ∧ Hid (Below w.heap.size w wr)) (fun s25 _ => N - (intOf s25).toNat)
  case atStart => exact ⟨0, Nat.zero_le _, rfl, Lib.hid (AtM.made w), Lib.hid (below1 _ _)⟩
  case round =>
    obtain ⟨k, hk, rfl, hM, hB⟩ := hrel
    by_cases hlt : k < N
    · have hki : (k : Int) < (N : Int) := by omega
      have hk0 : (0 : Int) ≤ (k : Int) := by omega
      have hkl : k < l.length := by have := hN0.out; omega
      obtain ⟨b, o, afp, afc, sbp, sbc, itp, itn, itc, rfl, hb, -, hat⟩ := hS1.out.at hN0.out hlt
      obtain ⟨n, hn, ⟨d0, d1, d2, d3, d4, d5, d6, d7⟩, -, -⟩ := hat wr hB.out
      have hnk : l[k]'hkl = n := by rw [List.getElem?_eq_getElem hkl] at hn; exact Option.some.inj hn
      have hnm := hsm1.out n (List.mem_of_getElem? hn)
      have hmx := hnm.1
      have hst := idx_step hkl
      rw [hnk] at hst
      clear hat hn hnk hnm
      obtain ⟨nm, co, ac, mx, af, sb, pa⟩ := n
      simp only at d0 d1 d2 d3 d4 d5 d6 d7 hmx hst
      generalize af.length = an at d4
      generalize sb.length = sn at d5
      have hbw : b < wr.heap.size := Nat.lt_of_lt_of_le hb hB.out.size
      have hM1 := hM.out.kept (World.grownBy_alloc wr (.cells #[.string ⟨nm.toArray⟩, .bool co, .int .u8 ac, .int .i64 mx, .slice afp an afc, .slice sbp sn sbc, .slice itp itn itc, .string ⟨pa.toArray⟩] 30) none) (by simp)
      have hlk := hM1.look (c := nm) (by unfold maxLen; omega)
      have hB1 := Lib.hid (belowA hB.out (.cells #[.string ⟨nm.toArray⟩, .bool co, .int .u8 ac, .int .i64 mx, .slice afp an afc, .slice sbp sn sbc, .slice itp itn itc, .string ⟨pa.toArray⟩] 30))
      replace hst := Lib.hid hst
      cases hix : idxN (l.take k) nm with
      | some i =>
        rw [hix] at hlk
        have hM2 := Lib.hid ((hM1.mono (Nat.le_succ k)).same (l' := l.take (k + 1)) (fun x => by
          rw [hst.out x]
          cases hx : idxN (l.take k) x with
          | some i => rfl
          | none => simp only; rw [if_neg (fun e => by rw [e, hx] at hix; cases hix)]))
        replace hix := Lib.hid hix
        clear hM1
        go_wp2_with fail
        go_roundw
        case rel => exact ⟨k + 1, by omega, by simp, hM2, hB1⟩
        case measure => simp [intOf]; omega
      | none =>
        rw [hix] at hlk
        obtain ⟨D, hD, hD2⟩ := hM1
        have hDm := Lib.hid hD.isMap
        have hDo := Lib.hid hD
        replace hD2 := Lib.hid hD2
        replace hix := Lib.hid hix
        clear hD
        go_wp2_with (at_mapUpdate; refine wpList_mapUpdate_own _ rfl _ _ _ 54 rfl 9 3 lawK Try.underlying54 _ w.heap.size k D rfl hDo.out (by unfold maxLen; omega) _ _ (.string nm) rfl rfl (key_tx (by unfold maxLen; omega)) (.lit (.int .i64 (k : Int))) [] (ri_int (wf_nat (by omega))) ?_; intro w1 hown1 hgrow1; replace hown1 := Lib.hid hown1; replace hgrow1 := Lib.hid hgrow1)
        go_roundw
        case rel =>
          refine ⟨k + 1, by omega, by simp, Lib.hid (AtM.put (l := l.take k) (l' := l.take (k + 1)) (c := nm) (D := D) hown1.out hDm.out hD2.out (fun x => ?_)), Lib.hid (hB1.out.grown hgrow1.out (Nat.le_trans hB.out.size (by simp)) (fun j e => by cases e; exact Nat.le_refl _))⟩
          rw [hst.out x]
          by_cases e : x = nm
          · subst e; rw [hix.out]
          · rw [if_neg e]
            cases hx : idxN (l.take k) x with
            | some i => rfl
            | none => simp only; rw [if_neg (fun h => e h.symm)]
        case measure => simp [intOf]; omega
    · obtain rfl : k = N := by omega
      rw [List.take_of_length_le (by rw [hN0.out]; exact Nat.le_refl _)] at hM
      have hki : ¬ (k : Int) < (k : Int) := by omega
      have hlk := hM.out.look (c := s) (by unfold maxLen; omega)
      cases hix : idxN l s with
      | none =>
        rw [hix] at hlk
        have hRn : Hid (R = []) := Lib.hid (by have := hR1.out; unfold fanN at this; rw [hix] at this; exact (Option.some.inj this).symm)
        replace hix := Lib.hid hix
        go_wp2_with fail
        try rw [Exit.noGoto_ret]
        go_ret
        refine ⟨_, [], rfl, ⟨none, 0, rfl, fun h => absurd h (by simp)⟩, List.Pairwise.nil, fun x => by rw [hRn.out], hB.out⟩
      | some i =>
        obtain ⟨wA, hwA⟩ : ∃ W, W = wr := ⟨_, rfl⟩
        subst hwA
        obtain ⟨hi, -⟩ := idx_lt hix
        rw [hix] at hlk
        have hik : i < k := by have := hN0.out; omega
        have hii : (i : Int) < (k : Int) := by omega
        have hi0 : (0 : Int) ≤ (i : Int) := by omega
        simp only [Option.getD_some, Option.isSome_some] at hlk
        obtain ⟨b, o, afp, afc, sbp, sbc, itp, itn, itc, hvp, hb, -, hat⟩ := hS1.out.at hN0.out hik
        subst hvp
        obtain ⟨n, hn, ⟨d0, d1, d2, d3, d4, d5, d6, d7⟩, hAf, hSu⟩ := hat wA hB.out
        have hsmn := Lib.hid (hsm1.out n (List.mem_of_getElem? hn))
        have hup : Hid (upN l n (k + 1) i 0 [] [] = some R) := Lib.hid (by have := hR1.out; unfold fanN at this; rw [hix] at this; simp only [hn, hN0.out] at this; exact this)
        replace hix := Lib.hid hix
        clear hat hn
        obtain ⟨hf1, hf2⟩ : (n.nm = n.nm ∧ n.pa = n.pa) := ⟨rfl, rfl⟩
        clear hf1 hf2
        have hbw : b < wA.heap.size := Nat.lt_of_lt_of_le hb hB.out.size
        obtain ⟨nmX, hnmX⟩ : ∃ z, n.nm = z := ⟨_, rfl⟩
        obtain ⟨coX, hcoX⟩ : ∃ z, n.co = z := ⟨_, rfl⟩
        obtain ⟨acX, hacX⟩ : ∃ z, n.ac = z := ⟨_, rfl⟩
        obtain ⟨mxX, hmxX⟩ : ∃ z, n.mx = z := ⟨_, rfl⟩
        obtain ⟨anX, hanX⟩ : ∃ z, n.af.length = z := ⟨_, rfl⟩
        obtain ⟨snX, hsnX⟩ : ∃ z, n.sb.length = z := ⟨_, rfl⟩
        obtain ⟨paX, hpaX⟩ : ∃ z, n.pa = z := ⟨_, rfl⟩
        have hRe : Hid (∀ (who : Tx) W, Below wA.heap.size wA W → Calls Try.prog 6 #[.agg #[.string ⟨nmX.toArray⟩, .bool coX, .int .u8 acX, .int .i64 mxX, .slice afp anX afc, .slice sbp snX sbc, .slice itp itn itc, .string ⟨paX.toArray⟩], .string ⟨who.toArray⟩] W fun e w' => e = .returned (.bool (readsN n who)) ∧ Below W.heap.size W w') := Lib.hid fun who W hW => by
          have := reads_any n (.slice afp n.af.length afc) (.slice sbp n.sb.length sbc) (.slice itp itn itc) who W (hAf.below hW) (hSu.below hW) hsmn.out.2.2.1 hsmn.out.2.2.2.1
          unfold ndC at this
          rw [hnmX, hcoX, hacX, hmxX, hanX, hsnX, hpaX] at this
          exact this
        rw [hnmX] at d0
        rw [hcoX] at d1
        rw [hacX] at d2
        rw [hmxX] at d3
        rw [hanX] at d4
        rw [hsnX] at d5
        rw [hpaX] at d7
        clear hnmX hcoX hacX hmxX hanX hsnX hpaX hAf hSu
        have hBx0 : ((((wA.alloc (.cells #[.string ⟨nmX.toArray⟩, .bool coX, .int .u8 acX, .int .i64 mxX, .slice afp anX afc, .slice sbp snX sbc, .slice itp itn itc, .string ⟨paX.toArray⟩] 30)).alloc (.map #[] 0)).alloc (.map #[] 0)).heap[wA.heap.size]? = some (.cells #[.string ⟨nmX.toArray⟩, .bool coX, .int .u8 acX, .int .i64 mxX, .slice afp anX afc, .slice sbp snX sbc, .slice itp itn itc, .string ⟨paX.toArray⟩] 30 (0, 0))) := obj_alloc (obj_alloc (heap_alloc _ _).1)
        have hAt0 : AtM (((wA.alloc (.cells #[.string ⟨nmX.toArray⟩, .bool coX, .int .u8 acX, .int .i64 mxX, .slice afp anX afc, .slice sbp snX sbc, .slice itp itn itc, .string ⟨paX.toArray⟩] 30)).alloc (.map #[] 0)).alloc (.map #[] 0)) w.heap.size k l := ((hM.out.kept (World.grownBy_alloc _ _ none) (by simp)).kept (World.grownBy_alloc _ _ none) (by simp)).kept (World.grownBy_alloc _ _ none) (by simp)
        have hSe0 : BoM (((wA.alloc (.cells #[.string ⟨nmX.toArray⟩, .bool coX, .int .u8 acX, .int .i64 mxX, .slice afp anX afc, .slice sbp snX sbc, .slice itp itn itc, .string ⟨paX.toArray⟩] 30)).alloc (.map #[] 0)).alloc (.map #[] 0)) (wA.heap.size + 1) 0 [] := by
          have h := (BoM.made (wA.alloc (.cells #[.string ⟨nmX.toArray⟩, .bool coX, .int .u8 acX, .int .i64 mxX, .slice afp anX afc, .slice sbp snX sbc, .slice itp itn itc, .string ⟨paX.toArray⟩] 30))).kept (World.grownBy_alloc _ (.map #[] 0) none) (by simp)
          rwa [World.size_alloc] at h
        have hTo0 : BoM (((wA.alloc (.cells #[.string ⟨nmX.toArray⟩, .bool coX, .int .u8 acX, .int .i64 mxX, .slice afp anX afc, .slice sbp snX sbc, .slice itp itn itc, .string ⟨paX.toArray⟩] 30)).alloc (.map #[] 0)).alloc (.map #[] 0)) (wA.heap.size + 1 + 1) 0 [] := by
          have h := BoM.made ((wA.alloc (.cells #[.string ⟨nmX.toArray⟩, .bool coX, .int .u8 acX, .int .i64 mxX, .slice afp anX afc, .slice sbp snX sbc, .slice itp itn itc, .string ⟨paX.toArray⟩] 30)).alloc (.map #[] 0))
          rwa [World.size_alloc, World.size_alloc] at h
        have hBw0 : Below wA.heap.size wA (((wA.alloc (.cells #[.string ⟨nmX.toArray⟩, .bool coX, .int .u8 acX, .int .i64 mxX, .slice afp anX afc, .slice sbp snX sbc, .slice itp itn itc, .string ⟨paX.toArray⟩] 30)).alloc (.map #[] 0)).alloc (.map #[] 0)) := belowA (belowA (below1 _ _) _) _
        replace hBx0 := Lib.hid hBx0
        replace hAt0 := Lib.hid hAt0
        replace hSe0 := Lib.hid hSe0
        replace hTo0 := Lib.hid hTo0
        replace hBw0 := Lib.hid hBw0
        have hwr := Lib.hid hB.out.size
        have hMlt := Lib.hid hM.out.lt
        replace hbw := Lib.hid hbw
        go_wp2_with fail
        apply wp_label
        go_wp2_with fail
        go_loopg [10, 15] (k + 1) (fun gg s10 s15 wr2 => ∃ (q i2 d : Nat) (S T : List Tx) (m : Nat), q = gg ∧ s10 = .int .i64 i2 ∧ s15 = .int .i64 d ∧ i2 < k ∧ gg + d = k + 1 ∧ m ≤ d * 1000 ∧ Hid (upN l n gg i2 d S T = some R) ∧ Hid (AtM wr2 w.heap.size k l) ∧ Hid (BoM wr2 (wA.heap.size + 1) d S) ∧ Hid (BoM wr2 (wA.heap.size + 1 + 1) m T) ∧ Hid (wr2.heap[wA.heap.size]? = some (.cells #[.string ⟨nmX.toArray⟩, .bool coX, .int .u8 acX, .int .i64 mxX, .slice afp anX afc, .slice sbp snX sbc, .slice itp itn itc, .string ⟨paX.toArray⟩] 30 (0, 0))) ∧ Hid (Below wA.heap.size wA wr2))
        case atStart => exact ⟨k + 1, i, 0, [], [], 0, rfl, rfl, rfl, hik, rfl, Nat.le_refl _, hup, hAt0, hSe0, hTo0, hBx0, hBw0⟩
        case round =>
          obtain ⟨wr2, hwr2⟩ : ∃ W, W = wr := ⟨_, rfl⟩
          subst hwr2
          clear hup hAt0 hSe0 hTo0 hBx0 hBw0 hlk hii hi0 hi d0 d1 d2 d3 d4 d5 d6 d7 hM hb
          obtain ⟨q, i2, d, S, T, m, rfl, rfl, rfl, hi2, hgd, hm, hup, hAt, hSe, hTo, hBx, hBw⟩ := hrel
          obtain ⟨g, rfl⟩ : ∃ g, q = g + 1 := by
            cases q with
            | zero => have h := hup.out; simp [upN] at h
            | succ g => exact ⟨g, rfl⟩
          obtain ⟨b2, o2, axp, axc, sxp, sxc, ixp, ixn, ixc, hvp2, hb2, -, hat2⟩ := hS1.out.at hN0.out hi2
          have hvp2 := Option.some.inj hvp2
          injection hvp2 with hv1 hv2 _
          subst hv1 hv2
          have hBB := belowT hB.out hBw.out
          obtain ⟨x, hx, ⟨e0, e1, e2, e3, e4, e5, e6, e7⟩, -, -⟩ := hat2 wr2 hBB
          have hsmx := hsm1.out x (List.mem_of_getElem? hx)
          have hSu : Hid (∀ W, Below w.heap.size w W → SuS W (.slice sxp x.sb.length sxc) x.sb) := Lib.hid fun W hW => by
            obtain ⟨x', hx', -, -, h⟩ := hat2 W hW
            rw [hx] at hx'
            cases hx'
            exact h
          have hup1 : Hid ((match idxN l x.pa with
            | none => some (toldN n d x.sb T)
            | some j => if x.pa = [] ∨ (x.nm :: S).contains x.pa = true then some (toldN n d x.sb T) else upN l n g j (d + 1) (x.nm :: S) (toldN n d x.sb T)) = some R) := Lib.hid (by have h := hup.out; unfold upN at h; rw [hx] at h; exact h)
          clear hat2 hx hup
          obtain ⟨xnm, xco, xac, xmx, xaf, xsb, xpa⟩ := x
          simp only at e0 e1 e2 e3 e4 e5 e6 e7 hsmx hSu hup1
          obtain ⟨hx1, hx2, -, hx3, hx4⟩ := hsmx
          simp only at hx1 hx2 hx3 hx4
          replace hx4 := Lib.hid hx4
          obtain ⟨M, hM⟩ : ∃ M, xsb.length = M := ⟨_, rfl⟩
          rw [hM] at e5 hx3
          generalize xaf.length = xan at e4
          have hM0 := Lib.hid hM
          clear hM
          have hb2w := Nat.lt_of_lt_of_le hb2 hBB.size
          have hd0 : d ≤ 1001 := by omega
          have hi2i : (i2 : Int) < (k : Int) := by omega
          have hi20 : (0 : Int) ≤ (i2 : Int) := by omega
          have hsz2 := hBw.out.size
          have hToLt := hTo.out.lt
          have hSeLt := hSe.out.lt
          obtain ⟨D, hD, hD2⟩ := hSe.out.kept (World.grownBy_alloc wr2 (.cells #[.string ⟨xnm.toArray⟩, .bool xco, .int .u8 xac, .int .i64 xmx, .slice axp xan axc, .slice sxp M sxc, .slice ixp ixn ixc, .string ⟨xpa.toArray⟩] 30) none) (by simp)
          have hDm := Lib.hid hD.isMap
          have hDo := Lib.hid hD
          replace hD2 := Lib.hid hD2
          replace hBB := Lib.hid hBB
          clear hD
          go_wp2_with (at_mapUpdate; refine wpList_mapUpdate_own _ rfl _ _ _ 56 rfl 9 4 lawK Try.underlying56 _ (wA.heap.size + 1) d D rfl hDo.out (by unfold maxLen; omega) _ _ (.string xnm) rfl rfl (key_tx (by unfold maxLen; omega)) (.lit (.bool true)) [] (rb_bool true) ?_
                       intro w1 hown1 hgrow1
                       have hbX := (hgrow1.block wr2.heap.size (by simp) (by intro e; injection e with e; omega)).trans (bare_nd wr2 _)
                       obtain ⟨xc, xf, xl⟩ := obj_cells hbX
                       replace hbX := Lib.hid hbX
                       replace hown1 := Lib.hid hown1
                       replace hgrow1 := Lib.hid hgrow1)
          have hB1 : Below wA.heap.size wA w1 := (belowA hBw.out _).grown hgrow1.out (Nat.le_trans hsz2 (by simp)) (fun j e => by cases e; omega)
          have hTo1 : BoM w1 (wA.heap.size + 1 + 1) m T := (hTo.out.kept (World.grownBy_alloc _ _ none) (by simp)).kept hgrow1.out (by simp)
          have hAt1 : AtM w1 w.heap.size k l := (hAt.out.kept (World.grownBy_alloc _ _ none) (by simp)).kept hgrow1.out (by intro e; injection e with e; have := hwr.out; have := hMlt.out; omega)
          have hSe1 : BoM w1 (wA.heap.size + 1) (d + 1) (xnm :: S) := BoM.put hown1.out hDm.out hD2.out
          have hBx1 : w1.heap[wA.heap.size]? = some (.cells #[.string ⟨nmX.toArray⟩, .bool coX, .int .u8 acX, .int .i64 mxX, .slice afp anX afc, .slice sbp snX sbc, .slice itp itn itc, .string ⟨paX.toArray⟩] 30 (0, 0)) := (hgrow1.out.block wA.heap.size (by simp; omega) (by simp)).trans (((World.grownBy_alloc wr2 _ none).block wA.heap.size (by omega) (by simp)).trans hBx.out)
          have hs1 := hgrow1.out.size
          have hw1s : wA.heap.size + 1 + 1 < w1.heap.size := hTo1.lt
          replace hB1 := Lib.hid hB1
          replace hTo1 := Lib.hid hTo1
          replace hAt1 := Lib.hid hAt1
          replace hSe1 := Lib.hid hSe1
          replace hBx1 := Lib.hid hBx1
          clear hTo hAt hSe hBx hDo hDm hD2 hown1 hgrow1 e0 e1 e2 e3 e4 e5 e6 e7
          go_loopw [70] (fun s70 wr3 => ∃ (kk mm : Nat), kk ≤ M ∧ s70 = .int .i64 kk ∧ mm ≤ d * 1000 + kk ∧ Hid (BoM wr3 (wA.heap.size + 1 + 1) mm (toldN n d (xsb.take kk) T)) ∧ Hid (w1.grownBy wr3 (some (wA.heap.size + 1 + 1)))) (fun s70 _ => M - (intOf s70).toNat)
          case atStart => exact ⟨0, m, Nat.zero_le _, rfl, by omega, hTo1, Lib.hid ⟨rfl, rfl, rfl, Nat.le_refl _, fun _ _ _ => rfl⟩⟩
          case round =>
            obtain ⟨kk, mm, hkk, rfl, hmm3, hTo, hG⟩ := hrel
            obtain ⟨wr3, hwr3⟩ : ∃ W, W = wr := ⟨_, rfl⟩
            subst hwr3
            have hB3 : Below wA.heap.size wA wr3 := hB1.out.grown hG.out (by omega) (fun j e => by cases e; omega)
            have hBB3 := belowT hB.out hB3
            have hs3 := hG.out.size
            have hBx3 := (hG.out.block wA.heap.size (by omega) (by simp; omega)).trans hBx1.out
            have hX3 := (hG.out.block wr2.heap.size xl (by intro e; injection e with e; omega)).trans hbX.out
            by_cases hlt3 : kk < M
            · have hki3 : (kk : Int) < (M : Int) := by omega
              have hk03 : (0 : Int) ≤ (kk : Int) := by omega
              have hkl : kk < xsb.length := by have := hM0.out; omega
              obtain ⟨sp', sc', he, -, -, hsat⟩ := hSu.out wr3 hBB3
              obtain ⟨rfl, -, rfl⟩ := Value.slice.inj he
              obtain ⟨bs, os, rfl, hbs, hcc⟩ := hsat (by omega)
              obtain ⟨f0, f1, f2⟩ := hcc kk hkl
              have hjl := hx4.out _ (List.getElem_mem hkl)
              have hts := told_step (n := n) (d := d) hkl T
              obtain ⟨sx, hsx⟩ : ∃ z, xsb[kk]'hkl = z := ⟨_, rfl⟩
              rw [hsx] at f0 f1 f2 hjl hts
              clear hsat hcc he hsx
              obtain ⟨j, pd, dep⟩ := sx
              simp only at f0 f1 f2 hjl hts
              replace hts := Lib.hid hts
              obtain ⟨nc, nf, nl⟩ := obj_cells hBx3
              replace hBx3 := Lib.hid hBx3
              replace hX3 := Lib.hid hX3
              replace hB3 := Lib.hid hB3
              replace hBB3 := Lib.hid hBB3
              go_upto_region 21 with (fail)
              go_cut [19] (fun v19 W => v19 = .bool (farB d dep) ∧ W = wr3.alloc (.cells #[.string ⟨j.toArray⟩, .bool pd, .int .i64 dep] 46))
              case first =>
                by_cases h0 : 0 < d
                · have h0i : (0 : Int) < (d : Int) := by omega
                  by_cases h1 : dep = 0
                  · have h1b : (dep != 0) = false := by rw [h1]; rfl
                    have hF : Hid (farB d dep = false) := Lib.hid (by unfold farB; rw [h1b]; simp)
                    clear h1
                    go_wp2_with fail
                    go_meet
                    exact ⟨by rw [hF.out], rfl⟩
                  · have h1b : (dep != 0) = true := by simpa using h1
                    by_cases h2 : dep < (d : Int)
                    · have hF : Hid (farB d dep = true) := Lib.hid (by unfold farB; rw [h1b]; simp [h0, h2])
                      clear h1
                      go_wp2_with fail
                      go_meet
                      exact ⟨by rw [hF.out], rfl⟩
                    · have hF : Hid (farB d dep = false) := Lib.hid (by unfold farB; rw [h1b]; simp [h2])
                      clear h1
                      go_wp2_with fail
                      go_meet
                      exact ⟨by rw [hF.out], rfl⟩
                · have h0i : ¬ (0 : Int) < (d : Int) := by omega
                  have hF : Hid (farB d dep = false) := Lib.hid (by unfold farB; simp [h0])
                  go_wp2_with fail
                  go_meet
                  exact ⟨by rw [hF.out], rfl⟩
              case rest =>
                obtain ⟨rfl, rfl⟩ := hcut
                have htl : Hid (tellN n d (j, pd, dep) = (!pd && !farB d dep && readsN n j)) := Lib.hid rfl
                generalize tellN n d (j, pd, dep) = TL at htl hts
                generalize farB d dep = F at htl ⊢
                go_upto_region 22 with (fail)
                go_cut [99] (fun v99 W => v99 = .bool TL ∧ (wr3.alloc (.cells #[.string ⟨j.toArray⟩, .bool pd, .int .i64 dep] 46)).grownBy W none)
                case first =>
                  cases pd
                  · cases F
                    · have hRj := Lib.hid (hRe.out j (wr3.alloc (.cells #[.string ⟨j.toArray⟩, .bool false, .int .i64 dep] 46)) (belowA hB3.out _))
                      go_wp2_with (go_at_call 6; refine hRj.out.mono ?_; rintro e w4 ⟨rfl, hb4⟩; replace hb4 := Lib.hid hb4)
                      go_meet
                      exact ⟨by rw [htl.out]; rfl, grown_of hb4.out⟩
                    · go_wp2_with fail
                      go_meet
                      exact ⟨by rw [htl.out]; rfl, grown_of (Below.refl _ _)⟩
                  · go_wp2_with fail
                    go_meet
                    exact ⟨by rw [htl.out]; rfl, grown_of (Below.refl _ _)⟩
                case rest =>
                  obtain ⟨rfl, hG5⟩ := hcut
                  have hsb := (hG5.block wr3.heap.size (by simp) (by simp)).trans (bare_nd wr3 _)
                  obtain ⟨jc, jf, jl⟩ := obj_cells hsb
                  have hTo5 := (hTo.out.kept (World.grownBy_alloc wr3 (.cells #[.string ⟨j.toArray⟩, .bool pd, .int .i64 dep] 46) none) (by simp)).kept hG5 (by simp)
                  have hG6 := Lib.hid (grown_then0 (grown_then0 hG.out (World.grownBy_alloc wr3 (.cells #[.string ⟨j.toArray⟩, .bool pd, .int .i64 dep] 46) none)) hG5)
                  replace hsb := Lib.hid hsb
                  replace hG5 := Lib.hid hG5
                  have hmmx : mm < 2000000 := by omega
                  cases TL
                  · replace hTo5 := Lib.hid hTo5
                    have hts2 : Hid (toldN n d (xsb.take (kk + 1)) T = toldN n d (xsb.take kk) T) := Lib.hid (by rw [hts.out]; rfl)
                    go_wp2_with fail
                    go_roundw
                    case rel => exact ⟨kk + 1, mm, by omega, by simp, by omega, Lib.hid (by rw [hts2.out]; exact hTo5.out), hG6⟩
                    case measure => simp [intOf]; omega
                  · obtain ⟨D5, hD5, hD52⟩ := hTo5
                    have hDm5 := Lib.hid hD5.isMap
                    have hDo5 := Lib.hid hD5
                    replace hD52 := Lib.hid hD52
                    have hts2 : Hid (toldN n d (xsb.take (kk + 1)) T = j :: toldN n d (xsb.take kk) T) := Lib.hid (by rw [hts.out]; rfl)
                    clear hD5
                    go_wp2_with (at_mapUpdate; refine wpList_mapUpdate_own _ rfl _ _ _ 56 rfl 9 4 lawK Try.underlying56 _ (wA.heap.size + 1 + 1) mm D5 rfl hDo5.out (by unfold maxLen; omega) _ _ (.string j) rfl rfl (key_tx (by unfold maxLen; omega)) (.lit (.bool true)) [] (rb_bool true) ?_; intro w6 hown6 hgrow6; replace hown6 := Lib.hid hown6; replace hgrow6 := Lib.hid hgrow6)
                    go_roundw
                    case rel => exact ⟨kk + 1, mm + 1, by omega, by simp, by omega, Lib.hid (by rw [hts2.out]; exact BoM.put hown6.out hDm5.out hD52.out), Lib.hid (grown_then hG6.out hgrow6.out)⟩
                    case measure => simp [intOf]; omega
            · obtain rfl : kk = M := by omega
              rw [List.take_of_length_le (by rw [hM0.out]; exact Nat.le_refl _)] at hTo
              have hki3 : ¬ (kk : Int) < (kk : Int) := by omega
              have hAt3 := hAt1.out.kept hG.out (by intro e; injection e with e; have := hwr.out; have := hMlt.out; omega)
              have hSe3 := hSe1.out.kept hG.out (by simp)
              have hlk3 := hAt3.look (c := xpa) (by unfold maxLen; omega)
              have hlk4 := hSe3.look1 (c := xpa) (by unfold maxLen; omega)
              have hcs : Hid ((((!(idxN l xpa).isSome) || ((xpa == []) || (xnm :: S).contains xpa)) = true ∧ toldN n d xsb T = R) ∨ (((!(idxN l xpa).isSome) || ((xpa == []) || (xnm :: S).contains xpa)) = false ∧ (idxN l xpa).getD 0 < kk.succ + k ∧ (idxN l xpa).getD 0 < k ∧ upN l n g ((idxN l xpa).getD 0) (d + 1) (xnm :: S) (toldN n d xsb T) = some R)) := Lib.hid (by
                have h := hup1.out
                cases hj : idxN l xpa with
                | none => rw [hj] at h; exact .inl ⟨rfl, Option.some.inj h⟩
                | some j =>
                  rw [hj] at h
                  simp only at h
                  have hjl := (idx_lt hj).1
                  have hjk : j < k := by rw [hN0.out] at hjl; exact hjl
                  by_cases hc : xpa = [] ∨ (xnm :: S).contains xpa = true
                  · rw [if_pos hc] at h
                    refine .inl ⟨?_, Option.some.inj h⟩
                    rcases hc with hc | hc
                    · subst hc; simp
                    · rw [hc]; simp
                  · rw [if_neg hc] at h
                    refine .inr ⟨?_, by simp; omega, by simpa using hjk, h⟩
                    have h1 : (xpa == []) = false := by
                      cases h : xpa == []
                      · rfl
                      · exact absurd (.inl (by simpa using h)) hc
                    have h2 : (xnm :: S).contains xpa = false := by
                      cases h : (xnm :: S).contains xpa
                      · rfl
                      · exact absurd (.inr h) hc
                    rw [h1, h2]; rfl)
              generalize (idxN l xpa).getD 0 = jv at hlk3 hcs
              generalize (idxN l xpa).isSome = is at hlk3 hcs
              obtain ⟨xnS, hxnS⟩ : ∃ z, xnm :: S = z := ⟨_, rfl⟩
              rw [hxnS] at hlk4 hcs
              replace hxnS := Lib.hid hxnS
              generalize xnS.contains xpa = Cn at hlk4 hcs
              obtain ⟨xc3, xf3, xl3⟩ := obj_cells hX3
              replace hX3 := Lib.hid hX3
              replace hBx3 := Lib.hid hBx3
              replace hAt3 := Lib.hid hAt3
              replace hSe3 := Lib.hid hSe3
              replace hB3 := Lib.hid hB3
              replace hBB3 := Lib.hid hBB3
              clear xc xf xl
              go_upto_region 26 with (fail)
              go_cut [123] (fun v123 W => v123 = .bool ((!is) || ((xpa == []) || Cn)) ∧ W = wr3)
              case first =>
                cases is
                · go_wp2_with fail
                  go_meet
                  exact ⟨rfl, rfl⟩
                · cases hpe : xpa == []
                  · go_wp2_with fail
                    go_meet
                    exact ⟨by rw [hpe]; rfl, rfl⟩
                  · go_wp2_with fail
                    go_meet
                    exact ⟨by rw [hpe]; rfl, rfl⟩
              case rest =>
                obtain ⟨rfl, rfl⟩ := hcut
                generalize ((!is) || ((xpa == []) || Cn)) = E at hcs ⊢
                rcases hcs.out with ⟨rfl, hRR⟩ | ⟨rfl, -, hjk, hup2⟩
                · rw [hRR] at hTo
                  obtain ⟨D, hD, hD2⟩ := hTo.out
                  have hsl := hD.size_le
                  have hmb : mm < 2000000 := by omega
                  have hDo := Lib.hid hD
                  replace hD2 := Lib.hid hD2
                  replace hRR := Lib.hid hRR
                  obtain ⟨i0, hi0', hz0, hz1, hz2⟩ := infoTx
                  clear hD
                  have hbm : Hid (wA.heap.size + 1 + 1 < wc.heap.size) := Lib.hid hDo.out.lt
                  go_wp2_with (at_range; refine wpList_range_own _ rfl _ 56 rfl 9 4 lawK Try.underlying56 RB (wA.heap.size + 1 + 1) mm D rfl hDo.out ?_; intro w7 hrg7 hg7 hs7; replace hrg7 := Lib.hid hrg7; replace hg7 := Lib.hid hg7; replace hs7 := Lib.hid hs7)
                  try go_frame
                  go_loopw [20] (fun s20 wr => ∃ (left : Lit → Bool) (cnt : Nat) (out : List Tx), Hid (wr.ranges Try.prog 9 RB (wA.heap.size + 1 + 1) wc.heap.size mm D left cnt) ∧ Hid (wr.ownsRow (wc.heap.size + 1) 9 1 s20 out.length (txC out)) ∧ Hid (∀ x : Tx, R.contains x = (out.contains x || left (.string x))) ∧ Hid (∀ x ∈ out, left (.string x) = false) ∧ Hid out.Nodup ∧ out.length + cnt ≤ mm ∧ Hid (Below w.heap.size w wr) ∧ Hid (wc.heap.size + 1 ≤ wr.heap.size)) (fun _ wr => wr.rangeLeft (wA.heap.size + 1 + 1) wc.heap.size)
                  case atStart =>
                    refine ⟨_, _, [], hrg7, Lib.hid (World.ownsRow_nil _ _ _ _), Lib.hid (fun x => ?_), Lib.hid (fun x h => by cases h), Lib.hid List.nodup_nil, by simpa using hsl, Lib.hid (hBB3.out.grown hg7.out hBB3.out.size (fun j e => by cases e)), Lib.hid (by rw [hs7.out]; exact Nat.le_refl _)⟩
                    rw [(hD2.out x).1]; simp
                  case round =>
                    obtain ⟨left, cnt, out, hrg, hO, hcv, hno, hnd, hcnt, hBw7, hsz7⟩ := hrel
                    obtain ⟨na, nc, rfl⟩ := owns_shx hO.out
                    have hSort := Lib.hid (sortTx out (wc.heap.size + 1) _ wr hO.out (by omega))
                    have hBBs := Lib.hid hBB3.out.size
                    have hol : out.length < 2000000 := by omega
                    go_wp2_with (first
                      | (at_next; refine wpList_next_ranges _ rfl _ rfl 9 lawK RB Value.string Value.bool (fun key kl h => by obtain ⟨x, h1, -⟩ := key_inv h; exact ⟨x, h1⟩) (fun v y h => rb_inv h) (wA.heap.size + 1 + 1) wc.heap.size mm D left cnt rfl hrg.out ?_ ?_
                         (intro hc0 hl0; replace hl0 := Lib.hid hl0; have tokA := Lib.hid True.intro)
                         rotate_left
                         (intro xk c kl y w8 cnt8 hkey hlk8 hrv hat8 hrg8 hlt8 hg8 hs8 hen8
                          obtain ⟨xl8, rfl, -⟩ := byte_str xk
                          obtain ⟨x8, h81, h82⟩ := key_inv hkey
                          have hxx : x8.data.toList = xl8 := by injection h81 with h81; rw [← h81]
                          rw [hxx] at h82
                          subst h82
                          have hO8 := Lib.hid ((hO.out.kept hg8 (.inr (fun e => by have := (hO.out.lt _ e).1; omega))).alloc (.cells #[.string ⟨xl8.toArray⟩] 9))
                          replace hlk8 := Lib.hid hlk8
                          replace hrg8 := Lib.hid hrg8
                          replace hg8 := Lib.hid hg8
                          replace hs8 := Lib.hid hs8
                          clear h81 hxx hkey hrv hat8)
                         rotate_left)
                      | (at_builtin; refine wpList_append_own _ rfl _ _ 36 rfl (wc.heap.size + 1) 9 i0 _ 1 16 Try.underlying36 hi0' hz0 hz1 hz2 rfl (by decide) _ _ _ rfl hO8.out ⟨w8.heap.size, 0, none⟩ 1 1 [.string ⟨xl8.toArray⟩] rfl rfl (cell_onx _ _ _) (by simp [Value.oneCell']) (by unfold maxLen; omega) (by omega) (by have := hs8.out; have := hsz7.out; simp only [World.size_alloc]; omega) ?_
                         intro v9 w9 hO9 hg9 _
                         replace hO9 := Lib.hid hO9
                         replace hg9 := Lib.hid hg9)
                      | (go_at_call 19; refine hSort.out.mono ?_; rintro e w10 ⟨rfl, hT10, hb10⟩; replace hT10 := Lib.hid hT10; replace hb10 := Lib.hid hb10))
                    · try rw [Exit.noGoto_ret]
                      go_ret
                      refine ⟨_, _, rfl, hT10.out, sort_rise hnd.out, fun x => ?_, hBw7.out.trans (hb10.out.mono (by have := hBBs.out; omega))⟩
                      rw [(List.mergeSort_perm out _).mem_iff]
                      have h := hcv.out x
                      rw [hl0.out, Bool.or_false, Bool.eq_iff_iff] at h
                      simpa using h.symm
                    · have hrow : ∀ j, (Value.slice na out.length nc).ownBlock = some j → wc.heap.size + 1 ≤ j := fun j e => (hO.out.lt j e).1
                      have hrg9 : w9.ranges Try.prog 9 RB (wA.heap.size + 1 + 1) wc.heap.size mm D (fun z => left z && !z.sameKey (.string xl8)) cnt8 := (hrg8.out.alloc (.cells #[.string ⟨xl8.toArray⟩] 9)).kept hg9.out (fun e => by have := hrow _ e.symm; have := hbm.out; omega) (fun e => by have := hrow _ e.symm; omega)
                      have hwcs := hBBs.out
                      have hb9 : Below w.heap.size w w9 := (belowA (hBw7.out.grown hg8.out hBw7.out.size (fun j e => by cases e; exact hwcs)) _).grown hg9.out (by have := hBw7.out.size; have := hs8.out; simp only [World.size_alloc]; omega) (fun j e => by have := hrow j e; omega)
                      have hs9 : wc.heap.size + 1 ≤ w9.heap.size := by have := hg9.out.size; have := hs8.out; have := hsz7.out; simp only [World.size_alloc] at *; omega
                      have hO9' : w9.ownsRow (wc.heap.size + 1) 9 1 v9 (out ++ [xl8]).length (txC (out ++ [xl8])) := by rw [List.length_append]; simpa [txC] using hO9.out
                      replace hrg9 := Lib.hid hrg9
                      replace hb9 := Lib.hid hb9
                      replace hs9 := Lib.hid hs9
                      replace hO9' := Lib.hid hO9'
                      have hsk : ∀ x : Tx, (Lit.string x).sameKey (.string xl8) = (x == xl8) := fun x => rfl
                      have hno8 : xl8 ∉ out := fun h => by have := hno.out _ h; rw [hlk8.out] at this; cases this
                      go_roundw
                      case rel =>
                        refine ⟨_, cnt8, out ++ [xl8], hrg9, hO9', Lib.hid (fun x => ?_), Lib.hid (fun x hx => ?_), Lib.hid ?_, ?_, hb9, hs9⟩
                        · rw [hcv.out x]
                          simp only [hsk]
                          by_cases e : x = xl8
                          · subst e; rw [hlk8.out]; simp
                          · have e2 : (x == xl8) = false := by simpa using e
                            rw [e2, Bool.not_false, Bool.and_true]
                            congr 1
                            rw [Bool.eq_iff_iff]
                            simp [e]
                        · simp only [hsk]
                          rcases List.mem_append.1 hx with h | h
                          · rw [hno.out x h]; rfl
                          · rw [List.mem_singleton.1 h]; simp
                        · rw [List.nodup_append]
                          exact ⟨hnd.out, by simp, fun a ha b hb e => hno8 (by rw [← List.mem_singleton.1 hb, ← e]; exact ha)⟩
                        · rw [List.length_append]; simp; omega
                      case measure => rw [hrg9.out.left_eq, hrg.out.left_eq]; exact hlt8
                · replace hup2 := Lib.hid hup2
                  go_wp2_with fail
                  go_roundg g
                  case measure => omega
                  case rel => exact ⟨g, jv, d + 1, xnm :: S, toldN n d xsb T, mm, rfl, rfl, by simp, hjk, by omega, by omega, Lib.hid (by have := hup2.out; rw [← hxnS.out] at this; exact this), hAt3, hSe3, hTo, hBx3, hB3⟩
end Go.Proofs.Ytoijpjmkjhoiaaa
