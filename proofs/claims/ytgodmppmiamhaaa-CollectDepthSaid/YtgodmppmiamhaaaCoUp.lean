/-
  Who is above a name: the iterator (up), by the program. Condition: edges in order, at most 1000.
-/
import Derived.Test.YtgodmppmiamhaaaCoFind
import Derived.Test.YtgodmppmiamhaaaRangeR
import Derived.RangeFuncBox
import Derived.RangeFuncBound
import Derived.RangeFuncCalls
import Derived.RangeFuncLeaves
import Derived.Shelf.RegionOpen
import Derived.OwnWalkIn
import Derived.TacticsInMore
import Derived.LoopNIn
import Derived.LoopIn
namespace Go.Proofs.Ytgodmppmiamhaaa
set_option linter.unusedVariables false
set_option linter.unusedSimpArgs false
open Go.RowKit Go.MapKept Go.Shelf
/-- what a round must keep: whatever lay below n₀, and two boxes -/
structure KeepU (n₀ Bl Bn : Nat) (A C : World) : Prop where
  os : C.os = A.os
  tape : C.tape = A.tape
  output : C.output = A.output
  size : A.heap.size ≤ C.heap.size
  block : ∀ k, k < A.heap.size → (k < n₀ ∨ k = Bl ∨ k = Bn) → C.heap[k]? = A.heap[k]?
theorem KeepU.trans {n₀ Bl Bn : Nat} {A B C : World} (h : KeepU n₀ Bl Bn A B) (k : KeepU n₀ Bl Bn B C) : KeepU n₀ Bl Bn A C :=
  ⟨k.os.trans h.os, k.tape.trans h.tape, k.output.trans h.output, Nat.le_trans h.size k.size, fun i hi hc => (k.block i (Nat.lt_of_lt_of_le hi h.size) hc).trans (h.block i hi hc)⟩
theorem KeepU.below {n₀ Bl Bn : Nat} {A C : World} (h : KeepU n₀ Bl Bn A C) (hn : n₀ ≤ A.heap.size) : Below n₀ A C := ⟨h.os, h.tape, h.output, h.size, fun i hi => h.block i (by omega) (.inl hi)⟩
theorem grown_of {A C : World} (h : Below A.heap.size A C) : A.grownBy C none := ⟨h.os, h.tape, h.output, h.size, fun k hk _ => h.block k hk⟩
section
variable {α : Type} {f : α → Option α}
theorem upF_snoc : ∀ {k : Nat} {x y p : α}, itF f k x = some y → f y = some p → upF f (k + 1) x = upF f k x ++ [p] ∧ itF f (k + 1) x = some p
  | 0, x, y, p, h, hp => by
    injection h with h
    subst h
    unfold upF itF
    rw [hp]
    exact ⟨rfl, rfl⟩
  | k + 1, x, y, p, h, hp => by
    rw [itF] at h
    cases hf : f x with
    | none => rw [hf] at h; cases h
    | some q =>
      rw [hf] at h
      obtain ⟨h1, h2⟩ := upF_snoc (k := k) h hp
      constructor
      · rw [upF, hf]
        show q :: upF f (k + 1) q = _
        rw [h1]
        conv => rhs; rw [upF, hf]
        rfl
      · rw [itF, hf]; exact h2
theorem upF_stop : ∀ {k n : Nat} {x y : α}, itF f k x = some y → f y = none → k ≤ n → upF f n x = upF f k x
  | 0, n, x, y, h, hp, _ => by
    injection h with h
    subst h
    cases n with
    | zero => rfl
    | succ n => simp [upF, hp]
  | k + 1, n + 1, x, y, h, hp, hn => by
    rw [itF] at h
    cases hf : f x with
    | none => rw [hf] at h; cases h
    | some q =>
      rw [hf] at h
      rw [upF, upF, hf]
      exact congrArg _ (upF_stop (k := k) h hp (by omega))
theorem upF_prefix : ∀ {m n : Nat} {x : α}, m ≤ n → upF f m x <+: upF f n x
  | 0, n, x, _ => List.nil_prefix
  | m + 1, n + 1, x, h => by
    unfold upF
    cases f x with
    | none => exact List.nil_prefix
    | some q => exact (List.prefix_cons_inj q).2 (upF_prefix (by omega))
end
theorem up_any (v : Value) (hv : ∃ a n c, v = .slice a n c) (c : Txt) (w : World) :
    Calls Try.prog 37 #[v, .string ⟨c.toArray⟩] w fun e w' => e = .returned (.func (.func 54) #[] #[.pointer (some ⟨w.heap.size, 0, none⟩), .pointer (some ⟨w.heap.size + 1, 0, none⟩)]) ∧ w' = (w.alloc (.cells #[v] 23)).alloc (.cells #[.string ⟨c.toArray⟩] 9) := by
  obtain ⟨a, n, c', rfl⟩ := hv
  go_enter Try.func37, Try.ntmps37
  go_wp2
  go_ret
  exact ⟨rfl, rfl⟩
set_option maxRecDepth 100000 in
set_option maxHeartbeats 4000000 in
theorem up1_in (l Bl Bn n₀ : Nat) (w0 : World) (hn0 : w0.heap.size = n₀) (v : Value) (E : Ats) (c : Txt) (hA : AtS w0 v E) (hl : E.length ≤ 1000) (hs : sortE E) (J Jx : List Txt → World → Prop) (W : World) (hb0 : Below n₀ w0 W) (hBl : n₀ ≤ Bl) (hBn : n₀ ≤ Bn) (hne : Bl ≠ Bn)
    (hJ : StandsR (· = Bn) J)
    (hY : ∀ pre x A, pre ++ [x] <+: upF (parE E) E.length c → J pre A → YieldAt Fence.wide 1 Try.prog l #[.string ⟨x.toArray⟩] A fun e C => (e = .returned (.bool true) ∧ J (pre ++ [x]) C ∧ KeepU n₀ Bl Bn A C) ∨ (e = .returned (.bool false) ∧ Jx (pre ++ [x]) C))
    (hbl : W.heap[Bl]? = some (.cells #[v] 23)) (hbn : W.heap[Bn]? = some (.cells #[.string ⟨c.toArray⟩] 9)) (h0 : J [] W) :
    CallsIn Fence.wide 2 Try.prog 54 #[.func (.yield l) #[] #[], .pointer (some ⟨Bl, 0, none⟩), .pointer (some ⟨Bn, 0, none⟩)] W fun e C => (∃ v, e = .returned v) ∧
      ((∃ xs, xs = upF (parE E) E.length c ∧ J xs C) ∨ (∃ pre, pre <+: upF (parE E) E.length c ∧ Jx pre C)) := by
  subst hn0
  obtain ⟨vp, vc, rfl⟩ : ∃ a c, v = .slice a E.length c := by obtain ⟨a, c, h, -⟩ := hA; exact ⟨a, c, h⟩
  obtain ⟨N, hN⟩ : ∃ N, E.length = N := ⟨_, rfl⟩
  have hfN : Hid (∀ nm W1, Below w0.heap.size w0 W1 → parE E nm = none → Calls Try.prog 32 #[.slice vp N vc, .string ⟨nm.toArray⟩] W1 fun e w' => ∃ i : Nat, e = .returned (.tuple #[.int .i64 i, .bool false]) ∧ Below W1.heap.size W1 w') := Lib.hid fun nm W1 hb hp => by
    rw [← hN]
    refine (find_any _ E nm W1 (hA.below hb) hl).mono ?_
    rintro e w' ⟨i, rfl, h1, h2, h3⟩
    obtain ⟨p1, p2⟩ := pos_all hs (h2 hs)
    cases hh : hitE E nm i with
    | false => exact ⟨i, rfl, h3⟩
    | true => obtain ⟨_, -, h4, -⟩ := p1 hh; rw [hp] at h4; cases h4
  have hfS : Hid (∀ nm W1 p, Below w0.heap.size w0 W1 → parE E nm = some p → Calls Try.prog 32 #[.slice vp N vc, .string ⟨nm.toArray⟩] W1 fun e w' => ∃ i : Nat, e = .returned (.tuple #[.int .i64 i, .bool true]) ∧ (∃ h : i < E.length, (E[i]'h).2 = p) ∧ Below W1.heap.size W1 w') := Lib.hid fun nm W1 p hb hp => by
    rw [← hN]
    refine (find_any _ E nm W1 (hA.below hb) hl).mono ?_
    rintro e w' ⟨i, rfl, h1, h2, h3⟩
    obtain ⟨p1, p2⟩ := pos_all hs (h2 hs)
    cases hh : hitE E nm i with
    | false => have := (p2 hh).1; rw [hp] at this; cases this
    | true => obtain ⟨h5, -, h4, -⟩ := p1 hh; rw [hp] at h4; injection h4 with h4; exact ⟨i, rfl, ⟨h5, h4.symm⟩, h3⟩
  obtain ⟨p', c', he', -, -, hat⟩ := hA
  injection he' with e1 e2 e3
  subst e1 e3
  rw [hN] at hbl hl ⊢
  replace hN := Lib.hid hN
  replace hat := Lib.hid hat
  obtain ⟨lc, -, ll⟩ := obj_cells hbl
  refine callsIn_of_wp Try.func54 rfl trivial ?_ rfl
  simp only [Try.ntmps54, List.size_toArray, List.length_cons, List.length_nil, Nat.reduceAdd, Nat.reduceSub, Array.replicate_succ, Array.replicate_zero, List.push_toArray, List.append_toArray, List.nil_append, List.cons_append]
  gi_wp2
  clear lc ll
  gi_loopw [8] (fun i wr => ∃ (k : Nat) (nm : Txt), k ≤ N ∧ i = .int .i64 k ∧ Hid (itF (parE E) k c = some nm) ∧ Hid (wr.heap[Bl]? = some (.cells #[.slice vp N vc] 23)) ∧ Hid (wr.heap[Bn]? = some (.cells #[.string ⟨nm.toArray⟩] 9)) ∧ Hid (J (upF (parE E) k c) wr) ∧ Hid (Below w0.heap.size w0 wr))
    (fun i _ => N - (intOf i).toNat)
  case atStart => exact ⟨0, c, Nat.zero_le _, rfl, rfl, hbl, hbn, h0, hb0⟩
  case round =>
    obtain ⟨k, nm, hk, rfl, hit, hbl, hbn, hJs, hB⟩ := hrel
    have hn0wr : w0.heap.size ≤ wr.heap.size := by have := hB.out.size; omega
    by_cases hlt : k < N
    · obtain ⟨lc, -, ll⟩ := obj_cells hbl.out
      obtain ⟨nc, nf, nl⟩ := obj_cells hbn.out
      have hki : (k : Int) < (N : Int) := by omega
      cases hp : parE E nm with
      | none =>
        have hfi := Lib.hid (hfN.out nm wr hB.out hp)
        have hst := Lib.hid (upF_stop hit.out hp hk)
        replace hp := Lib.hid hp
        gi_wp2_with (refine ⟨trivial, ?_⟩; gi_at_call 32; refine (callsIn_wide.2 hfi.out).mono ?_; rintro e w1 ⟨i, rfl, hb1⟩; have hJ1 := hJ _ wr w1 none hJs.out (grown_of hb1) (fun _ e => by cases e); replace hb1 := Lib.hid hb1)
        refine ⟨(fun _ h => by cases h), ?_⟩
        gi_wp2
        refine bodyPost_ret (results_none rfl _ _ _) rfl ?_
        exact ⟨⟨_, rfl⟩, .inl ⟨_, hst.out.symm, hJ1⟩⟩
      | some p =>
        have hfi := Lib.hid (hfS.out nm wr p hB.out hp)
        obtain ⟨hsn, hit2⟩ := upF_snoc hit.out hp
        replace hsn := Lib.hid hsn
        replace hit2 := Lib.hid hit2
        replace hp := Lib.hid hp
        obtain ⟨b, o, rfl, hb, hcc⟩ := hat.out (by have := hN.out; omega)
        have hlb : Hid (∀ wx, Below wr.heap.size wr wx → Below w0.heap.size w0 wx) := Lib.hid fun wx hx => hB.out.trans (hx.mono hn0wr)
        gi_wp2_with (refine ⟨trivial, ?_⟩
                     gi_at_call 32
                     refine (callsIn_wide.2 hfi.out).mono ?_
                     rintro e w1 ⟨i, rfl, ⟨hi, hpi⟩, hb1⟩
                     have hJ1 := hJ _ wr w1 none hJs.out (grown_of hb1) (fun _ e => by cases e)
                     have hB1 := hlb.out w1 hb1
                     have e1 := ((bat hB1 b (by omega)).1 (o + i * 2 + 1)).trans (hcc i hi).2
                     rw [hpi] at e1
                     obtain ⟨lc1, -, ll1⟩ := obj_cells ((hb1.block _ ll).trans hbl.out)
                     have hbn1 := Lib.hid ((hb1.block _ nl).trans hbn.out)
                     have hbl1 := Lib.hid ((hb1.block _ ll).trans hbl.out)
                     have hiN : i < N := by have := hN.out; omega
                     have hi0 : (0 : Int) ≤ (i : Int) := by omega
                     have hiI : (i : Int) < (N : Int) := by omega
                     have hbw1 : b < w1.heap.size := by have := hB1.size; omega
                     obtain ⟨fn, tmps, assign, body, hy, hRd⟩ := hY _ p w1 (by rw [← hsn.out]; exact upF_prefix (by have := hN.out; omega)) hJ1
                     replace hb1 := Lib.hid hb1
                     replace hB1 := Lib.hid hB1
                     replace hpi := Lib.hid hpi)
        refine hRd.mono ?_
        rintro e W3 (⟨rfl, hJ3, hk3⟩ | ⟨rfl, hJx3⟩)
        · have hnw1 : w0.heap.size ≤ w1.heap.size := hB1.out.size
          have hB3 := hB1.out.trans (hk3.below hnw1)
          have e3 := ((hk3.below hnw1).cell (p := ⟨b, o + i * 2 + 1, none⟩) (by show b < w0.heap.size; omega)).trans e1
          have hbl3 := (hk3.block Bl ll1 (.inr (.inl rfl))).trans hbl1.out
          have hbn3 := (hk3.block Bn (obj_cells hbn1.out).2.2 (.inr (.inr rfl))).trans hbn1.out
          obtain ⟨lc3, -, ll3⟩ := obj_cells hbl3
          obtain ⟨nc3, nf3, nl3⟩ := obj_cells hbn3
          replace hbl3 := Lib.hid hbl3
          replace hbn3 := Lib.hid hbn3
          replace hB3 := Lib.hid hB3
          rw [← hsn.out] at hJ3
          replace hJ3 := Lib.hid hJ3
          replace hk3 := Lib.hid hk3
          have hbw3 : b < W3.heap.size := by have := hB3.out.size; omega
          clear e1 lc lc1 nc nf
          gi_wp2
          go_roundw
          case rel =>
            exact ⟨k + 1, p, by omega, by go_num, hit2, Lib.hid ((Below.heap_setCell _ _ _ _ hne).trans hbl3.out), Lib.hid (obj_set (i := 0) hbn3.out _), Lib.hid (hJ _ W3 _ (some Bn) hJ3.out (grownBy_setCell' W3 Bn _) (fun r e => by injection e with e; exact e.symm)), Lib.hid (hB3.out.setCell (p := ⟨Bn, 0, none⟩) hBn _)⟩
          case measure => simp [intOf]; omega
        · gi_wp2
          refine bodyPost_ret (results_none rfl _ _ _) rfl ?_
          exact ⟨⟨_, rfl⟩, .inr ⟨_, by rw [← hsn.out]; exact upF_prefix (by have := hN.out; omega), hJx3⟩⟩
    · obtain rfl : k = N := by omega
      have hki : ¬ (k : Int) < (k : Int) := by omega
      gi_wp2
      go_end0
      exact ⟨⟨_, rfl⟩, .inl hJs⟩
end Go.Proofs.Ytgodmppmiamhaaa
