/-
  The pairs whose keys begin so, in order (sorted), by the program: the iterator. Condition: the map's pairs are right (okE); a prefix within the reach.
-/
import Derived.Test.YtfeiihmhdcnabaaKvCells
import Derived.Test.YtfeiihmhdcnabaaShelf
import Derived.RangeFuncNested
import Derived.RangeFuncBox
import Derived.RangeFuncBound
import Derived.RangeFuncCalls
import Derived.RangeFuncLeaves
import Derived.Shelf.RegionOpen
import Derived.OwnWalkIn
import Derived.TacticsInMore
import Derived.LoopNIn
import Derived.LoopIn
namespace Go.Proofs.Ytfeiihmhdcnabaa
set_option linter.unusedVariables false
set_option linter.unusedSimpArgs false
open Go.RowKit Go.MapKept Go.Shelf
abbrev PO := { e : Txt × Txt // okP e }
def encP (x : PO) : Array Value := #[.agg #[.string ⟨x.1.1.toArray⟩, .string ⟨x.1.2.toArray⟩]]
/-- a block that a round must keep: texts, or the map's pointer -/
def isS (A : World) (k : Nat) : Prop := (∃ cs z, A.heap[k]? = some (.cells cs 9 z)) ∨ ∃ cs z, A.heap[k]? = some (.cells cs 22 z)
structure KeepK (n₀ : Nat) (A C : World) : Prop where
  os : C.os = A.os
  tape : C.tape = A.tape
  output : C.output = A.output
  size : A.heap.size ≤ C.heap.size
  block : ∀ k, k < A.heap.size → (k < n₀ ∨ isS A k) → C.heap[k]? = A.heap[k]?
theorem KeepK.trans {n₀ : Nat} {A B C : World} (h : KeepK n₀ A B) (k : KeepK n₀ B C) : KeepK n₀ A C :=
  ⟨k.os.trans h.os, k.tape.trans h.tape, k.output.trans h.output, Nat.le_trans h.size k.size, fun i hi hc => by
    have e := h.block i hi hc
    refine (k.block i (Nat.lt_of_lt_of_le hi h.size) ?_).trans e
    rcases hc with h1 | h1
    · exact .inl h1
    · right; unfold isS; rw [e]; exact h1⟩
theorem KeepK.below {n₀ : Nat} {A C : World} (h : KeepK n₀ A C) (hn : n₀ ≤ A.heap.size) : Below n₀ A C := ⟨h.os, h.tape, h.output, h.size, fun i hi => h.block i (by omega) (.inl hi)⟩
theorem KeepK.grown {n₀ : Nat} {A C : World} {row : Option Nat} (hg : A.grownBy C row) (hr : ∀ r, row = some r → n₀ ≤ r ∧ ¬ isS A r) : KeepK n₀ A C :=
  ⟨hg.os, hg.tape, hg.output, hg.size, fun k hk hc => hg.block k hk fun e => by
    obtain ⟨h1, h2⟩ := hr k e.symm
    rcases hc with h | h
    · omega
    · exact h2 h⟩
theorem KeepK.refl (n₀ : Nat) (A : World) : KeepK n₀ A A := ⟨rfl, rfl, rfl, Nat.le_refl _, fun _ _ _ => rfl⟩
theorem not_isS {A : World} {k : Nat} {cs : Array Value} {t : TypeId} {z : Nat × Nat} (h : A.heap[k]? = some (.cells cs t z)) (h1 : t ≠ 9) (h2 : t ≠ 22) : ¬ isS A k := by
  rintro (⟨_, _, e⟩ | ⟨_, _, e⟩)
  · rw [h] at e; cases e; exact h1 rfl
  · rw [h] at e; cases e; exact h2 rfl
theorem keepK_b {n₀ : Nat} {w : World} (hn : n₀ ≤ w.heap.size) (W : World) (l : Nat) (o o' : Obj) (hl : w.heap.size ≤ l) (h : W.heap[l]? = some o) (hc : o.isCells = false) (_ : o.isWalk = false) : KeepK n₀ W (W.putObj l o') :=
  KeepK.grown (grownBy_putObj' W l o') (fun r e => by
    cases e
    refine ⟨by omega, ?_⟩
    rintro (⟨_, _, e⟩ | ⟨_, _, e⟩) <;> (rw [h] at e; cases e; cases hc))
theorem grown_none' {A C : World} (h : Below A.heap.size A C) : A.grownBy C none := ⟨h.os, h.tape, h.output, h.size, fun k hk _ => h.block k hk⟩
/-- the row of keys -/
def KeyRow (E : Ats) (va : Option Addr) (W : World) : Prop := 0 < E.length → ∃ gk cur, va = some ⟨gk, 0, none⟩ ∧ W.heap[gk]? = some (.cells cur 9) ∧ ∀ k (h : k < E.length), cur[k]? = some (.string ⟨(E[k]'h).1.toArray⟩)
theorem KeyRow.keep {E : Ats} {va : Option Addr} {A C : World} {n₀ : Nat} (h : KeyRow E va A) (hk : KeepK n₀ A C) : KeyRow E va C := by
  intro h0
  obtain ⟨gk, cur, h1, h2, h3⟩ := h h0
  exact ⟨gk, cur, h1, (hk.block gk (Array.getElem?_eq_some_iff.1 h2).1 (.inr (.inl ⟨_, _, h2⟩))).trans h2, h3⟩
theorem keyRow_of {E : Ats} {v : Value} {base : Nat} {W : World} {xs : List Value} (hx : xs = (E.map (·.1)).map fun n => .string ⟨n.toArray⟩) (h : W.ownsRow base 9 1 v E.length xs) : ∃ a c, v = .slice a E.length c ∧ KeyRow E a W := by
  rcases h.2 with ⟨rfl, h0⟩ | ⟨g, cap, cur, rfl, hb, hg, h1, h2, h3, h4⟩
  · exact ⟨none, 0, by rw [h0], fun h => by omega⟩
  · refine ⟨_, _, rfl, fun _ => ⟨g, cur, rfl, hg, fun k hk => ?_⟩⟩
    have : (cur.toList.take (E.length * 1))[k]? = some (.string ⟨(E[k]'hk).1.toArray⟩) := by
      rw [h4, hx]
      simp [hk]
    rw [List.getElem?_take] at this
    rw [← Array.getElem?_toList]
    split at this
    · exact this
    · cases this
theorem scan_snoc {E : Ats} {p : Txt} {k : Nat} (h : k < E.length) : scanE (E.take (k + 1)) p = scanE (E.take k) p ++ if p.isPrefixOf (E[k]'h).1 then [E[k]'h] else [] := by
  unfold scanE
  rw [List.take_add_one, List.getElem?_eq_getElem h, List.filter_append]
  congr 1
  cases hq : p.isPrefixOf (E[k]'h).1 <;> simp [hq]
theorem scan_len (E : Ats) (p : Txt) (k : Nat) : (scanE (E.take k) p).length ≤ k := Nat.le_trans (List.length_filter_le _ _) (by simp; omega)
theorem sorted_any (g : Nat) (p : Txt) (w : World) :
    Calls Try.prog 35 #[.pointer (some ⟨g, 0, none⟩), .string ⟨p.toArray⟩] w fun e w' => e = .returned (.func (.func 41) #[] #[.pointer (some ⟨w.heap.size, 0, none⟩), .pointer (some ⟨w.heap.size + 1, 0, none⟩)]) ∧ w' = (w.alloc (.cells #[.pointer (some ⟨g, 0, none⟩)] 22)).alloc (.cells #[.string ⟨p.toArray⟩] 9) := by
  go_enter Try.func35, Try.ntmps35
  go_wp2
  go_ret
  exact ⟨rfl, rfl⟩
theorem prefix_any (c p : Txt) (w : World) : Calls Try.prog 44 #[.string ⟨c.toArray⟩, .string ⟨p.toArray⟩] w fun e w' => e = .returned (.bool (p.isPrefixOf c)) ∧ w = w' :=
  (Try.strings_HasPrefix ⟨c.toArray⟩ ⟨p.toArray⟩ w).mono fun e w' ⟨h, hw⟩ => ⟨h, hw.symm⟩
set_option maxRecDepth 100000 in
set_option maxHeartbeats 4000000 in
theorem sorted_stops (g b : Nat) (E : Ats) (p : Txt) (w0 w : World) (h : KvS w0 g b E) (hb : Below w0.heap.size w0 w) (Bm Bp : Nat) (hBm : w0.heap.size ≤ Bm) (hBp : w0.heap.size ≤ Bp)
    (hm : w.heap[Bm]? = some (.cells #[.pointer (some ⟨g, 0, none⟩)] 22)) (hp : w.heap[Bp]? = some (.cells #[.string ⟨p.toArray⟩] 9)) :
    SeqStopsK Fence.wide 5 Try.prog 41 #[.pointer (some ⟨Bm, 0, none⟩), .pointer (some ⟨Bp, 0, none⟩)] encP (KeepK w0.heap.size) (fun xs => xs.map (·.1) = scanE E p) (fun _ => True) 129 w := by
  intro l J Jx W hW hJ hJx hY h0
  have hm1 : W.heap[Bm]? = some (.cells #[.pointer (some ⟨g, 0, none⟩)] 22) := (hW.block Bm (Array.getElem?_eq_some_iff.1 hm).1).trans hm
  have hp1 : W.heap[Bp]? = some (.cells #[.string ⟨p.toArray⟩] 9) := (hW.block Bp (Array.getElem?_eq_some_iff.1 hp).1).trans hp
  have hB0 : Below w0.heap.size w0 W := belowT hb hW
  have hE := h.1
  have hKv : ∀ W1, Below w0.heap.size w0 W1 → KvS W1 g b E := fun W1 h1 => h.below h1
  have hown := (hKv W hB0).2.2
  obtain ⟨N, hN⟩ : ∃ N, E.length = N := ⟨_, rfl⟩
  have hN128 : N ≤ 128 := by rw [← hN]; exact hE.2.1
  have hks := fun ss (hp : List.Perm ss (E.map (·.1))) => keys_sorted hE.1 hp
  have hSo : ∀ W1, KvM W1 b E → Calls Try.prog 42 #[.func (.func 49) #[] #[.pointer (some ⟨W1.heap.size, 0, none⟩)]] (W1.alloc (.cells #[.map (some b)] 59)) fun e w' => ∃ a c, e = .returned (.slice a N c) ∧ KeyRow E a w' ∧ Below W1.heap.size W1 w' := fun W1 ho => by
    refine ((callsIn_wide (n := 5)).1 (Try.slices_Sorted_keys_42_43 b E.length (kvD E) RM W1 ho (by rw [kv_size, hN]; unfold maxLen; omega) (by rw [kv_size, hN]; omega))).mono ?_
    rintro e w' ⟨v, ss, rfl, hS, hrow, -, hbl⟩
    rw [kv_keys] at hS
    rw [hks ss hS] at hrow
    have hlen : ss.length = E.length := by rw [hS.length_eq, List.length_map]
    rw [hlen] at hrow
    obtain ⟨a, c, rfl, hk⟩ := keyRow_of (by rfl) hrow
    exact ⟨a, c, by rw [hN], hk, (below1 W1 _).trans (hbl.mono (by simp))⟩
  have hKe : ∀ W1, Calls Try.prog 43 #[.map (some b)] W1 fun e w' => e = .returned (.func (.func 49) #[] #[.pointer (some ⟨W1.heap.size, 0, none⟩)]) ∧ w' = W1.alloc (.cells #[.map (some b)] 59) := fun W1 =>
    (callsIn_wide (n := 5)).1 (Try.maps_Keys_43 (some b) W1)
  have hgs := (hKv W hB0).2.1
  obtain ⟨mc, -, ml⟩ := obj_cells hm1
  obtain ⟨gc, -, gl⟩ := obj_cells hgs
  replace hSo := Lib.hid hSo
  replace hKv := Lib.hid hKv
  replace hB0 := Lib.hid hB0
  replace hown := Lib.hid hown
  replace hN := Lib.hid hN
  replace hKe := Lib.hid hKe
  replace hm1 := Lib.hid hm1
  replace hp1 := Lib.hid hp1
  replace hgs := Lib.hid hgs
  replace hE := Lib.hid hE
  clear h hks hm hp
  have mc0 := mc 0
  have gc0 := gc 0
  simp at mc0 gc0
  clear mc gc
  refine callsIn_of_wp Try.func41 rfl trivial ?_ rfl
  simp only [Try.ntmps41, List.size_toArray, List.length_cons, List.length_nil, Nat.reduceAdd, Nat.reduceSub, Array.replicate_succ, Array.replicate_zero, List.push_toArray, List.append_toArray, List.nil_append, List.cons_append]
  gi_wp2_with (first
    | (refine ⟨trivial, ?_⟩; gi_at_call 43; refine (callsIn_wide.2 (hKe.out W)).mono ?_; rintro e w1 ⟨rfl, rfl⟩)
    | (refine ⟨trivial, ?_⟩; gi_at_call 42; refine (callsIn_wide.2 (hSo.out W hown.out)).mono ?_; rintro e w2 ⟨va, vc, rfl, hkr, hb2⟩; have hJ2 := Lib.hid (hJ _ W w2 none h0 (grown_none' hb2) (fun _ e => by cases e)); have hm2 := Lib.hid ((hb2.block Bm ml).trans hm1.out); have hp2 := Lib.hid ((hb2.block Bp (Array.getElem?_eq_some_iff.1 hp1.out).1).trans hp1.out); replace hkr := Lib.hid hkr; replace hb2 := Lib.hid (belowT hB0.out hb2)))
  gi_loopw [15] (fun i wr => ∃ k : Nat, k ≤ N ∧ i = .int .i64 k ∧ Hid (∃ pre : List PO, pre.map (·.1) = scanE (E.take k) p ∧ pre.length ≤ k ∧ J pre wr) ∧ Hid (wr.heap[Bm]? = some (.cells #[.pointer (some ⟨g, 0, none⟩)] 22)) ∧ Hid (wr.heap[Bp]? = some (.cells #[.string ⟨p.toArray⟩] 9)) ∧ Hid (KeyRow E va wr) ∧ Hid (Below w0.heap.size w0 wr))
    (fun i _ => N - (intOf i).toNat)
  case atStart => exact ⟨0, Nat.zero_le _, rfl, Lib.hid ⟨[], by simp [scanE], Nat.le_refl _, hJ2.out⟩, hm2, hp2, hkr, hb2⟩
  case round =>
    clear hJ2 hm2 hp2 hkr hb2 hm1 hp1 hgs hSo hKe ml mc0 gc0 gl
    obtain ⟨k, hk, rfl, hpre, hm3, hp3, hkr, hB⟩ := hrel
    by_cases hlt : k < N
    · have hk3 : k < E.length := by have := hN.out; omega
      obtain ⟨gk, cur, rfl, hgk, hcur⟩ := hkr.out (by omega)
      obtain ⟨kc, -, kl⟩ := obj_cells hgk
      have d0 := (kc k).trans (hcur k hk3)
      clear kc hcur
      obtain ⟨pc, -, pl⟩ := obj_cells hp3.out
      obtain ⟨mc, -, ml⟩ := obj_cells hm3.out
      have pc0 := pc 0
      have mc0 := mc 0
      have hst := hKv.out wr hB.out
      obtain ⟨gc, -, gl⟩ := obj_cells hst.2.1
      have gc0 := gc 0
      simp at pc0 mc0 gc0
      clear pc mc gc
      have hsn := scan_snoc (p := p) hk3
      have hmem := List.getElem_mem hk3
      have hlk := fun (hc : (E[k]'hk3).1.length ≤ maxLen) => hst.2.2.look1 hc
      rw [par_of hE.out.1 (x := (E[k]'hk3).1) (p := (E[k]'hk3).2) (by exact hmem)] at hlk
      have hokx := hE.out.2.2 _ hmem
      clear hst
      obtain ⟨x, hx⟩ : ∃ x : PO, x.1 = E[k]'hk3 := ⟨⟨_, hokx⟩, rfl⟩
      rw [← hx] at hsn d0 hlk hokx
      clear hmem hx
      obtain ⟨⟨c, v⟩, hok'⟩ := x
      simp only at hsn d0 hlk hokx
      have hl2 := hlk (by have := hokx.2.1; unfold maxLen; simp only at this; omega)
      simp only [Option.getD_some] at hl2
      clear hlk hokx
      have hki : (k : Int) < (N : Int) := by omega
      have hk0 : (0 : Int) ≤ (k : Int) := by omega
      have hPx := prefix_any c p wr
      obtain ⟨pre, hp1, hp2, hJp⟩ := hpre.out
      cases hq : p.isPrefixOf c with
      | true =>
        rw [hq] at hPx hsn
        replace hPx := Lib.hid hPx
        replace hq := Lib.hid hq
        obtain ⟨fn, tmps, assign, body, hy, hRd⟩ := hY pre ⟨(c, v), hok'⟩ wr hJp (by omega)
        dsimp only [encP] at hy
        replace hp1 := Lib.hid hp1
        replace hsn := Lib.hid hsn
        replace hJp := Lib.hid hJp
        replace hgk := Lib.hid hgk
        gi_wp2_with (refine ⟨trivial, ?_⟩; gi_at_call 44; refine (callsIn_wide.2 hPx.out).mono ?_; rintro e w3 ⟨rfl, rfl⟩)
        refine hRd.mono ?_
        rintro e W3 (⟨rfl, hJ3, hk3'⟩ | ⟨rfl, hJx3⟩)
        · have hn : w0.heap.size ≤ wr.heap.size := hB.out.size
          have hm4 := Lib.hid ((hk3'.block Bm ml (.inr (.inr ⟨_, _, hm3.out⟩))).trans hm3.out)
          have hp4 := Lib.hid ((hk3'.block Bp pl (.inr (.inl ⟨_, _, hp3.out⟩))).trans hp3.out)
          have hkr4 := Lib.hid (hkr.out.keep hk3')
          have hB4 := Lib.hid (hB.out.trans (hk3'.below hn))
          have hpre4 : Hid (∃ pre : List PO, pre.map (·.1) = scanE (E.take (k + 1)) p ∧ pre.length ≤ k + 1 ∧ J pre W3) := Lib.hid ⟨pre ++ [⟨(c, v), hok'⟩], by rw [hsn.out, List.map_append, hp1.out]; rfl, by simp; omega, hJ3⟩
          clear hJ3 hk3'
          gi_wp2
          go_roundw
          case rel => exact ⟨k + 1, by omega, by go_num, hpre4, hm4, hp4, hkr4, hB4⟩
          case measure => simp [intOf]; omega
        · gi_wp2
          refine bodyPost_ret (results_none rfl _ _ _) rfl ?_
          exact ⟨⟨_, rfl⟩, .inr ⟨_, trivial, hJx3⟩⟩
      | false =>
        rw [hq] at hPx hsn
        simp only [Bool.false_eq_true, if_false, List.append_nil] at hsn
        replace hPx := Lib.hid hPx
        replace hq := Lib.hid hq
        replace hgk := Lib.hid hgk
        have hpre4 : Hid (∃ pre : List PO, pre.map (·.1) = scanE (E.take (k + 1)) p ∧ pre.length ≤ k + 1 ∧ J pre wr) := Lib.hid ⟨pre, by rw [hsn, hp1], by omega, hJp⟩
        clear hsn hp1 hJp
        gi_wp2_with (refine ⟨trivial, ?_⟩; gi_at_call 44; refine (callsIn_wide.2 hPx.out).mono ?_; rintro e w3 ⟨rfl, rfl⟩)
        refine ⟨(fun _ h => by cases h), ?_⟩
        gi_wp2
        go_roundw
        case rel => exact ⟨k + 1, by omega, by go_num, hpre4, hm3, hp3, hkr, hB⟩
        case measure => simp [intOf]; omega
    · obtain rfl : k = N := by omega
      have hki : ¬ (k : Int) < (k : Int) := by omega
      have hend : Hid (∃ xs : List PO, xs.map (·.1) = scanE E p ∧ J xs wr) := by
        obtain ⟨pre, h1, -, h2⟩ := hpre.out
        rw [List.take_of_length_le (by have := hN.out; omega)] at h1
        exact Lib.hid ⟨pre, h1, h2⟩
      gi_wp2
      go_end0
      exact ⟨⟨_, rfl⟩, .inl hend.out⟩
end Go.Proofs.Ytfeiihmhdcnabaa
