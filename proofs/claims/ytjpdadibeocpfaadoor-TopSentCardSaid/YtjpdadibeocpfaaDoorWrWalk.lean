/-
  How many elements are open behind each token (write.walk): the iterator. Condition: no text beyond the reach.
-/
import Derived.Test.YtjpdadibeocpfaaDoorWrRight
import Derived.Test.YtjpdadibeocpfaaDoorRange
import Derived.RangeFuncBox
import Derived.RangeFuncNested
import Derived.RangeFuncBound
import Derived.RangeFuncCalls
import Derived.RangeFuncLeaves
import Derived.Shelf.Abstract
import Derived.Shelf.RegionOpen
import Derived.OwnWalkIn
import Derived.TacticsInMore
import Derived.LoopNIn
import Derived.LoopIn
import Derived.Maps.AppendAt
namespace Go.Proofs.YtjpdadibeocpfaaDoor
set_option linter.unusedVariables false
set_option linter.unusedSimpArgs false
open Go.RowKit Go.MapKept Go.Shelf
attribute [local go_sem] Oper.semAt_some
/-- what is open behind one token more; none: it can't be -/
def stepT (prev : Int) (op : List (List UInt8)) (tk : Tk) : Option (List (List UInt8)) :=
  if rightT tk = false then none
  else if tk.k = 1 ∧ op.length < 8 then some (op ++ [tk.n])
  else if tk.k = 2 ∧ 0 < op.length ∧ op.getD (op.length - 1) [] = tk.n then some (op.take (op.length - 1))
  else if tk.k = 3 ∧ 0 < op.length ∧ prev ≠ 3 then some op
  else none
def prevK (l : List Tk) (k : Nat) : Int := if k = 0 then 0 else (l[k - 1]?.map Tk.k).getD 0
/-- what is open behind k tokens -/
def opsTo (l : List Tk) : Nat → Option (List (List UInt8))
  | 0 => some []
  | k + 1 => match opsTo l k, l[k]? with
    | some op, some tk => stepT (prevK l k) op tk
    | _, _ => none
/-- the pairs that have come -/
def yields (l : List Tk) (k : Nat) : List (Nat × Nat) := (List.range k).map fun j => (j, ((opsTo l (j + 1)).getD []).length)
theorem yields_succ (l : List Tk) (k : Nat) : yields l (k + 1) = yields l k ++ [(k, ((opsTo l (k + 1)).getD []).length)] := by simp [yields, List.range_succ]
/-- what a round must keep: whatever lay below n₀, the box, and what lies from Bo on -/
structure KeepW (n₀ Bs Bo : Nat) (A C : World) : Prop where
  os : C.os = A.os
  tape : C.tape = A.tape
  output : C.output = A.output
  size : A.heap.size ≤ C.heap.size
  block : ∀ k, k < A.heap.size → (k < n₀ ∨ k = Bs ∨ Bo ≤ k) → C.heap[k]? = A.heap[k]?
theorem KeepW.trans {n₀ Bs Bo : Nat} {A B C : World} (h : KeepW n₀ Bs Bo A B) (k : KeepW n₀ Bs Bo B C) : KeepW n₀ Bs Bo A C :=
  ⟨k.os.trans h.os, k.tape.trans h.tape, k.output.trans h.output, Nat.le_trans h.size k.size, fun i hi hc => (k.block i (Nat.lt_of_lt_of_le hi h.size) hc).trans (h.block i hi hc)⟩
theorem KeepW.below {n₀ Bs Bo : Nat} {A C : World} (h : KeepW n₀ Bs Bo A C) (hn : n₀ ≤ A.heap.size) : Below n₀ A C := ⟨h.os, h.tape, h.output, h.size, fun i hi => h.block i (by omega) (.inl hi)⟩
theorem infoS : (Tryd.prog.info? 9).map (fun i => (i.zero, i.size, i.bytes)) = some (some (.string ⟨#[]⟩), 1, 16) := by kernel_rfl
def nameCells (op : List (List UInt8)) : List Value := op.map fun n => .string ⟨n.toArray⟩
theorem owns_keep {w w' : World} {base : Nat} {e : TypeId} {size : Nat} {v : Value} {n : Nat} {xs : List Value} (h : w.ownsRow base e size v n xs) (hk : ∀ g, base ≤ g → g < w.heap.size → w'.heap[g]? = w.heap[g]?) : w'.ownsRow base e size v n xs := by
  refine ⟨h.1, ?_⟩
  rcases h.2 with h2 | ⟨g, cap, cur, h1, h2, h3, h4⟩
  · exact .inl h2
  · exact .inr ⟨g, cap, cur, h1, h2, (hk g h2 (Array.getElem?_eq_some_iff.1 h3).1).trans h3, h4⟩
theorem below_grown {A C : World} (h : Below A.heap.size A C) : A.grownBy C none := ⟨h.os, h.tape, h.output, h.size, fun k hk _ => h.block k hk⟩
theorem KeepW.grown {n₀ Bs Bo : Nat} {A B C : World} {row : Option Nat} (h : KeepW n₀ Bs Bo A B) (hg : B.grownBy C row) (hr : ∀ r, row = some r → A.heap.size ≤ r) : KeepW n₀ Bs Bo A C :=
  ⟨hg.os.trans h.os, hg.tape.trans h.tape, hg.output.trans h.output, Nat.le_trans h.size hg.size, fun i hi hc => (hg.block i (Nat.lt_of_lt_of_le hi h.size) (fun e => by have := hr i e.symm; omega)).trans (h.block i hi hc)⟩
theorem wrapM (m : Nat) (h : m ≤ 100) : IntKind.i64.wrap (m : Int) = (m : Int) := wrap_small _ (by omega) (by omega)
theorem exec_index {P : Program} {a : Act} {o : Oper} {w : World} {t : TypeId} {x ix : Operand} {X I v : Value} (ho : o.op = .indexAddr t x ix) (hX : a.eval x = X) (hI : a.eval ix = I) (h : (Instr.indexAt t X I).run P w = .ok v w) : (execOp a.eval o).run P w = .ok (.value v) w := by
  simp [execOp, ho, hX, hI, h, Result.andThen]
theorem ix_top (g m c : Nat) (w : World) : (Instr.indexAt 51 (.slice (some ⟨g, 0, none⟩) (m + 1) c) (.int .i64 (m : Int))).run Tryd.prog w = .ok (.pointer (some ⟨g, m, none⟩)) w := by
  have hsz : (sizeOf (Tryd.prog.elem 51)).run Tryd.prog w = .ok 1 w := by kernel_rfl
  rw [run_indexAt_slice (h := by kernel_rfl), if_pos (by omega), hsz]
  simp only [Result.andThen, Int.toNat_natCast, Nat.mul_one]
  rw [Addr.add_lit, Nat.zero_add]
theorem owns_take {w : World} {base : Nat} {g n m c : Nat} {op : List (List UInt8)} (hm : m ≤ op.length) (h : w.ownsRow base 9 1 (.slice (some ⟨g, 0, none⟩) n c) op.length (nameCells op)) : w.drew.ownsRow base 9 1 (.slice (some ⟨g, 0, none⟩) m c) (op.take m).length (nameCells (op.take m)) := by
  have hl : (op.take m).length = m := by simp [hm]
  rcases h.2 with ⟨hv, _⟩ | ⟨g', cap, cur, hv, hb, hg, hnc, hcm, hcs, ht⟩
  · cases hv
  · injection hv with h1 h2 h3
    injection h1 with h1
    injection h1 with h1 _ _
    subst h1 h3
    refine ⟨by simp [nameCells, hm], .inr ⟨g, c, cur, by rw [hl], hb, hg, by omega, hcm, hcs, ?_⟩⟩
    rw [hl]
    have := congrArg (List.take m) ht
    rw [List.take_take] at this
    simp only [Nat.mul_one] at this ⊢
    rw [Nat.min_eq_left hm] at this
    rw [this]
    simp [nameCells, List.map_take]
theorem owns_shape {w : World} {base : Nat} {e : TypeId} {size : Nat} {v : Value} {n : Nat} {xs : List Value} (h : w.ownsRow base e size v n xs) : ∃ a c, v = .slice a n c := by
  rcases h.2 with ⟨hv, h0⟩ | ⟨g, cap, cur, hv, _⟩
  · exact ⟨_, _, by rw [hv, h0]⟩
  · exact ⟨_, _, hv⟩
set_option maxRecDepth 100000 in
set_option maxHeartbeats 4000000 in
theorem walk1_in (l Bs n₀ : Nat) (w0 : World) (hn0 : w0.heap.size = n₀) (tv : Value) (tks : List Tk) (hT : TkS w0 tv tks) (hsm : ∀ tk ∈ tks, tk.small) (hlen : tks.length ≤ 128) (J Jx : List (Nat × Nat) → World → Prop) (W : World) (hb0 : Below n₀ w0 W) (hBs : n₀ ≤ Bs ∧ Bs < W.heap.size)
    (hJ : Stands W.heap.size J) (hJx : Stands W.heap.size Jx)
    (hY : ∀ pre x A, J pre A → YieldAt Fence.wide 1 Tryd.prog l #[.int .i64 (x.1 : Int), .int .i64 (x.2 : Int)] A fun e C => (e = .returned (.bool true) ∧ J (pre ++ [x]) C ∧ KeepW n₀ Bs W.heap.size A C) ∨ (e = .returned (.bool false) ∧ Jx (pre ++ [x]) C))
    (hbox : W.cell? ⟨Bs, 0, none⟩ = some tv) (h0 : J [] W) :
    CallsIn Fence.wide 2 Tryd.prog 41 #[.func (.yield l) #[] #[], .pointer (some ⟨Bs, 0, none⟩)] W fun e C => (∃ v, e = .returned v) ∧
      ((∃ xs, (∃ m, m ≤ tks.length ∧ xs = yields tks m ∧ (opsTo tks m).isSome = true ∧ (m = tks.length ∨ opsTo tks (m + 1) = none)) ∧ J xs C) ∨ (∃ pre, (∃ m, m < tks.length ∧ pre = yields tks (m + 1) ∧ (opsTo tks (m + 1)).isSome = true) ∧ Jx pre C)) := by
  obtain ⟨i0, hi, hz0, hz1, hz2⟩ := info_parts infoS
  obtain ⟨ptr, cap, rfl, hcap, hcapm, htk⟩ := hT
  refine callsIn_of_wp Tryd.func41 rfl trivial ?_ rfl
  simp only [Tryd.ntmps41, List.size_toArray, List.length_cons, List.length_nil, Nat.reduceAdd, Nat.reduceSub, Array.replicate_succ, Array.replicate_zero, List.push_toArray, List.append_toArray, List.nil_append, List.cons_append]
  gi_wp2
  gi_loopw [3, 9] (fun v i wr => ∃ (k : Nat) (op : List (List UInt8)), k ≤ tks.length ∧ i = .int .i64 k ∧ opsTo tks k = some op ∧ op.length ≤ 8 ∧ Hid (wr.ownsRow W.heap.size 9 1 v op.length (nameCells op)) ∧ Hid (J (yields tks k) wr) ∧ Hid (KeepW n₀ Bs W.heap.size W wr))
    (fun _ i _ => tks.length - (intOf i).toNat)
  case atStart => exact ⟨0, [], Nat.zero_le _, rfl, rfl, Nat.zero_le _, World.ownsRow_nil _ _ _ _, h0, ⟨rfl, rfl, rfl, Nat.le_refl _, fun _ _ _ => rfl⟩⟩
  case round =>
    obtain ⟨k, op, hk, rfl, hop, hop8, hO, hJs, hKw⟩ := hrel
    by_cases hlt : k < tks.length
    · obtain ⟨b, o, rfl, hb, hc⟩ := htk (by omega)
      obtain ⟨sv, c0, c1, c2, c3, c4⟩ := hc k hlt
      have hbl := KeepW.below hKw.out (by have := hb0.size; omega)
      have kc := fun (j : Nat) => (hb0.trans hbl).cell (p := ⟨b, j, none⟩) (by show b < n₀; omega)
      have d0 := (kc _).trans c0
      have d1 := (kc _).trans c1
      have d2 := (kc _).trans c2
      have d3 := (kc _).trans c3
      obtain ⟨nl, ncap, hv⟩ := owns_shape hO.out
      subst hv
      have hat0 := c4.below ((hb0.trans hbl).mono (by omega))
      have hsk := hsm tks[k] (List.getElem_mem hlt)
      have hst : opsTo tks (k + 1) = stepT (prevK tks k) op tks[k] := by simp [opsTo, hop, List.getElem?_eq_getElem hlt]
      revert d0 d1 d2 d3 hat0 hsk hst
      have hpv : 0 < k → ∀ w1, Below n₀ w0 w1 → w1.cell? ⟨b, o + (k - 1) * 4, none⟩ = some (.int .u8 (prevK tks k)) := by
        intro hk0 w1 hb1
        obtain ⟨sv', c0', -⟩ := hc (k - 1) (by omega)
        rw [hb1.cell (p := ⟨b, o + (k - 1) * 4, none⟩) (by show b < n₀; omega), c0']
        simp [prevK, Nat.ne_of_gt hk0, List.getElem?_eq_getElem (show k - 1 < tks.length by omega)]
      clear c0 c1 c2 c3 c4 hc kc
      generalize tks[k] = tk
      obtain ⟨tkk, tn, ta, tt⟩ := tk
      intro d0 d1 d2 d3 hat0 hsk hst
      simp only at d0 d1 d2 d3 hat0
      obtain ⟨aptr, acap, rfl⟩ : ∃ a c, sv = .slice a ta.length c := by obtain ⟨a, c, h, -⟩ := hat0; exact ⟨a, c, h⟩
      have hR := Lib.hid (right_any ⟨tkk, tn, ta, tt⟩ _ (wr.alloc (.cells #[.int .u8 tkk, .string ⟨tn.toArray⟩, .slice aptr ta.length acap, .string ⟨tt.toArray⟩] 35)) (hat0.below (below1 wr _)) hsk)
      have hfacts : ∀ w1, Below (wr.alloc (.cells #[.int .u8 tkk, .string ⟨tn.toArray⟩, .slice aptr ta.length acap, .string ⟨tt.toArray⟩] 35)).heap.size (wr.alloc (.cells #[.int .u8 tkk, .string ⟨tn.toArray⟩, .slice aptr ta.length acap, .string ⟨tt.toArray⟩] 35)) w1 →
          (w1.cell? ⟨wr.heap.size, 0, none⟩ = some (.int .u8 tkk) ∧ w1.cell? ⟨wr.heap.size, 1, none⟩ = some (.string ⟨tn.toArray⟩)) ∧ (J (yields tks k) w1 ∧ w1.ownsRow W.heap.size 9 1 (.slice nl op.length ncap) op.length (nameCells op) ∧ KeepW n₀ Bs W.heap.size W w1 ∧ W.heap.size ≤ w1.heap.size) ∧ (w1.cell? ⟨Bs, 0, none⟩ = some (.slice (some ⟨b, o, none⟩) tks.length cap) ∧ (0 < k → w1.cell? ⟨b, o + (k - 1) * 4, none⟩ = some (.int .u8 (prevK tks k)))) := by
        intro w1 hb1
        have hbx := (bat hb1 wr.heap.size (by simp)).1
        have hbw : Below wr.heap.size wr w1 := below1t hb1
        have hKw1 := hKw.out.grown (below_grown hbw) (fun _ e => by cases e)
        refine ⟨⟨(hbx 0).trans (by simp), (hbx 1).trans (by simp)⟩, ?_, ⟨(World.cell?_of_block (a := ⟨Bs, 0, none⟩) (hKw1.block Bs hBs.2 (.inr (.inl rfl)))).trans hbox, fun h => hpv h w1 (hb0.trans (hKw1.below (by have := hb0.size; omega)))⟩⟩
        exact ⟨hJ _ wr w1 none hJs (below_grown hbw) (fun _ e => by cases e), owns_keep hO.out (fun g _ h => hbw.block g h), hKw.out.grown (below_grown hbw) (fun _ e => by cases e), Nat.le_trans hKw.out.size hbw.size⟩
      cases hrt : rightT ⟨tkk, tn, ta, tt⟩
      · have hs : opsTo tks (k + 1) = none := by rw [hst]; simp [stepT, hrt]
        gi_wp2_with (refine ⟨trivial, ?_⟩; gi_at_call 42; refine (callsIn_wide.2 hR.out).mono ?_; rintro e w1 ⟨rfl, hb1⟩; rw [hrt])
        refine bodyPost_ret (results_none rfl _ _ _) rfl ?_
        exact ⟨⟨_, rfl⟩, .inl ⟨_, ⟨k, hk, rfl, by rw [hop]; rfl, .inr hs⟩, (hfacts _ hb1).2.1.1⟩⟩
      have hfl : ∀ wx : World, W.heap.size ≤ wx.heap.size → W.heap.size ≤ (wx.alloc (.cells #[.string ⟨tn.toArray⟩] 9)).heap.size := fun wx h => by simp; omega
      by_cases hA : tkk = 1 ∧ op.length < 8
      · obtain ⟨rfl, h8⟩ := hA
        have b8 : decide ((op.length : Int) < 8) = true := by simp; omega
        have hs : opsTo tks (k + 1) = some (op ++ [tn]) := by rw [hst]; simp [stepT, hrt, h8]
        have hys := yields_succ tks k
        rw [hs] at hys
        simp only [Option.getD_some, List.length_append, List.length_cons, List.length_nil, Nat.zero_add] at hys
        gi_wp2_with (first
          | (refine ⟨trivial, ?_⟩; gi_at_call 42; refine (callsIn_wide.2 hR.out).mono ?_; rintro e w1 ⟨rfl, hb1⟩; rw [hrt]; obtain ⟨⟨e0, e1⟩, ⟨hJ1, hO1, hKw1, hs1⟩, hbx1, hpv1⟩ := hfacts _ hb1)
          | (gi_at_builtin; refine wpListIn_append_own _ rfl _ _ 51 rfl W.heap.size 9 i0 (.string ⟨#[]⟩) 1 16 Tryd.underlying51 hi hz0 hz1 hz2 rfl (by decide) _ _ _ rfl (hO1.alloc _) ⟨w1.heap.size, 0, none⟩ 1 1 [.string ⟨tn.toArray⟩] rfl rfl (cell_one_new _ _ _) (by simp [Value.oneCell']) (by unfold maxLen; omega) (by omega) (hfl _ hs1) ?_
             intro v' w2 hO2 hg2 _
             have hJ2 := hJ _ _ w2 _ (hJ _ w1 _ none hJ1 (World.grownBy_alloc _ _ _) (fun _ e => by cases e)) hg2 (fun r e => ((hO1.alloc (.cells #[.string ⟨tn.toArray⟩] 9)).lt r e).1)
             have hKw2 := (hKw1.grown (World.grownBy_alloc w1 (.cells #[.string ⟨tn.toArray⟩] 9) none) (fun _ e => by cases e)).grown hg2 (fun r e => ((hO1.alloc (.cells #[.string ⟨tn.toArray⟩] 9)).lt r e).1)
             replace hO2 : w2.ownsRow W.heap.size 9 1 v' (op ++ [tn]).length (nameCells (op ++ [tn])) := by simpa [nameCells] using hO2
             obtain ⟨va, vc, rfl⟩ := owns_shape hO2
             simp only [List.length_append, List.length_cons, List.length_nil, Nat.zero_add] at hO2
             have hOk : w2.ownsRow W.heap.size 9 1 (.slice va (op.length + 1) vc) (op ++ [tn]).length (nameCells (op ++ [tn])) := by simpa using hO2
             obtain ⟨fn, tmps, assign, body, hy, hRd⟩ := hY _ (k, op.length + 1) w2 hJ2
             dsimp only at hy
             rw [show ((op.length + 1 : Nat) : Int) = (op.length : Int) + 1 from by omega] at hy))
        gi_wp2
        refine hRd.mono ?_
        rintro e W3 (⟨rfl, hJ3, hk3⟩ | ⟨rfl, hJx3⟩)
        · rw [← hys] at hJ3
          gi_wp2
          go_roundw
          case rel => exact ⟨k + 1, (op ++ [tn]), by omega, by go_num, hs, by simp; omega, owns_keep hOk (fun g h1 h2 => hk3.block g h2 (.inr (.inr h1))), hJ3, hKw2.trans hk3⟩
          case measure => simp [intOf]; omega
        · rw [← hys] at hJx3
          gi_wp2
          refine bodyPost_ret (results_none rfl _ _ _) rfl ?_
          exact ⟨⟨_, rfl⟩, .inr ⟨_, ⟨k, hlt, rfl, by rw [hs]; rfl⟩, hJx3⟩⟩
      by_cases hk1 : tkk = 1
      · subst hk1
        have h8 : ¬ op.length < 8 := fun h => hA ⟨rfl, h⟩
        have b8 : decide ((op.length : Int) < 8) = false := by simp; omega
        have hs : opsTo tks (k + 1) = none := by rw [hst]; simp [stepT, hrt, h8]
        gi_wp2_with (refine ⟨trivial, ?_⟩; gi_at_call 42; refine (callsIn_wide.2 hR.out).mono ?_; rintro e w1 ⟨rfl, hb1⟩; rw [hrt]; obtain ⟨⟨e0, e1⟩, ⟨hJ1, hO1, hKw1, hs1⟩, hbx1, hpv1⟩ := hfacts _ hb1; have hJD : J (yields tks k) w1.drew := hJ _ w1 w1.drew none hJ1 ⟨rfl, rfl, rfl, Nat.le_refl _, fun _ _ _ => rfl⟩ (fun _ e => by cases e); have hKD : KeepW n₀ Bs W.heap.size W w1.drew := ⟨hKw1.os, hKw1.tape, hKw1.output, hKw1.size, hKw1.block⟩)
        refine wpIn_wide.2 ?_
        refine wp_region_float (by kernel_rfl) (by kernel_rfl) (fun Wx => Wx = w1.drew) rfl ?_
        simp only [List.toList_toArray]
        repeat (first
          | (apply Flo.skip; · rfl
             simp only [Act.put, List.setIfInBounds_toArray, List.set_cons_zero, List.set_cons_succ])
          | (apply Flo.val; · rfl
             · (rintro Wx rfl; go_simp; with_reducible rfl)
             simp only [Act.put, List.setIfInBounds_toArray, List.set_cons_zero, List.set_cons_succ])
          | fail)
        rintro Wx rfl
        gi_wp2
        refine bodyPost_ret (results_none rfl _ _ _) rfl ?_
        exact ⟨⟨_, rfl⟩, .inl ⟨_, ⟨k, hk, rfl, by rw [hop]; rfl, .inr hs⟩, hJD⟩⟩
      have k1 : (tkk == 1) = false := by rw [beq_eq_false_iff_ne]; exact hk1
      by_cases hk2 : tkk = 2
      · subst hk2
        rcases Nat.eq_zero_or_pos op.length with h0 | h0
        · have b0 : decide ((0 : Int) < (op.length : Int)) = false := by rw [decide_eq_false_iff_not]; omega
          have hs : opsTo tks (k + 1) = none := by rw [hst]; simp [stepT, hrt, h0]
          gi_wp2_with (refine ⟨trivial, ?_⟩; gi_at_call 42; refine (callsIn_wide.2 hR.out).mono ?_; rintro e w1 ⟨rfl, hb1⟩; rw [hrt]; obtain ⟨⟨e0, e1⟩, ⟨hJ1, hO1, hKw1, hs1⟩, hbx1, hpv1⟩ := hfacts _ hb1; have hJD : J (yields tks k) w1.drew := hJ _ w1 w1.drew none hJ1 ⟨rfl, rfl, rfl, Nat.le_refl _, fun _ _ _ => rfl⟩ (fun _ e => by cases e); have hKD : KeepW n₀ Bs W.heap.size W w1.drew := ⟨hKw1.os, hKw1.tape, hKw1.output, hKw1.size, hKw1.block⟩)
          refine wpIn_wide.2 ?_
          refine wp_region_float (by kernel_rfl) (by kernel_rfl) (fun Wx => Wx = w1.drew) rfl ?_
          simp only [List.toList_toArray]
          repeat (first
            | (apply Flo.skip; · rfl
               simp only [Act.put, List.setIfInBounds_toArray, List.set_cons_zero, List.set_cons_succ])
            | (apply Flo.val; · rfl
               · (rintro Wx rfl; go_simp; with_reducible rfl)
               simp only [Act.put, List.setIfInBounds_toArray, List.set_cons_zero, List.set_cons_succ])
            | fail)
          rintro Wx rfl
          gi_wp2
          refine bodyPost_ret (results_none rfl _ _ _) rfl ?_
          exact ⟨⟨_, rfl⟩, .inl ⟨_, ⟨k, hk, rfl, by rw [hop]; rfl, .inr hs⟩, hJD⟩⟩
        obtain ⟨m, hm⟩ : ∃ m, op.length = m + 1 := ⟨op.length - 1, by omega⟩
        obtain ⟨g, hg, hnc⟩ : ∃ g, nl = some ⟨g, 0, none⟩ ∧ op.length ≤ ncap := by
          rcases hO.out.2 with ⟨hv, h0'⟩ | ⟨g, cap', cur, hv, _, _, hn, _⟩
          · omega
          · injection hv with e1 e2 e3
            exact ⟨g, e1, by omega⟩
        subst hg
        have em : op.length - 1 = m := by omega
        have hop8' : m + 1 ≤ 8 := by omega
        have hcl : ∀ w1 : World, w1.ownsRow W.heap.size 9 1 (.slice (some ⟨g, 0, none⟩) op.length ncap) op.length (nameCells op) → w1.cell? ⟨g, m, none⟩ = some (.string ⟨(op.getD m []).toArray⟩) := by
          intro w1 h
          have := World.ownsRow.cells h (g := g) rfl m (.string ⟨(op.getD m []).toArray⟩) (by simp [nameCells, List.getD, List.getElem?_eq_getElem (show m < op.length by omega)])
          rwa [Addr.add_lit, Nat.zero_add] at this
        have htk' := fun w1 => owns_take (w := w1) (base := W.heap.size) (g := g) (n := op.length) (m := m) (c := ncap) (op := op) (by omega)
        have hm2 : op.length > 0 := h0
        have hst2 := hst
        revert hst2
        simp only [hm] at hfacts hO hcl htk' hnc ⊢
        intro hst2
        have b0 : decide ((0 : Int) < ((m + 1 : Nat) : Int)) = true := by rw [decide_eq_true_eq]; omega
        have bm : ((m + 1 : Nat) : Int) - 1 = (m : Int) := by omega
        have hwr : IntKind.i64.wrap (m : Int) = (m : Int) := wrapM m (by omega)
        have hix1 : ∀ Wx : World, (Instr.indexAt 51 (.slice (some ⟨g, 0, none⟩) (m + 1) ncap) (.int .i64 (IntKind.i64.wrap (m : Int)))).run Tryd.prog Wx = .ok (.pointer (some ⟨g, m, none⟩)) Wx := fun Wx => by rw [hwr]; exact ix_top g m ncap Wx
        have hix2 := ix_top g m ncap
        obtain ⟨lst, hls⟩ : ∃ z, op.getD m [] = z := ⟨_, rfl⟩
        have hcl' : ∀ w1 : World, w1.ownsRow W.heap.size 9 1 (.slice (some ⟨g, 0, none⟩) (m + 1) ncap) (m + 1) (nameCells op) → w1.cell? ⟨g, m, none⟩ = some (.string ⟨lst.toArray⟩) := fun w1 h => by rw [← hls]; exact hcl w1 h
        clear hcl
        by_cases hlast : lst = tn
        · subst hlast
          have bl : (lst == lst) = true := by simp
          have hs : opsTo tks (k + 1) = some (op.take m) := by rw [hst]; unfold stepT; rw [if_neg (by rw [hrt]; decide), if_neg (by simp), if_pos ⟨rfl, h0, by rw [em, hls]⟩, em]
          have hys := yields_succ tks k
          rw [hs] at hys
          simp only [Option.getD_some] at hys
          rw [show (op.take m).length = m from by simp [hm]] at hys
          gi_wp2_with (refine ⟨trivial, ?_⟩; gi_at_call 42; refine (callsIn_wide.2 hR.out).mono ?_; rintro e w1 ⟨rfl, hb1⟩; rw [hrt]; obtain ⟨⟨e0, e1⟩, ⟨hJ1, hO1, hKw1, hs1⟩, hbx1, hpv1⟩ := hfacts _ hb1; have hJD : J (yields tks k) w1.drew := hJ _ w1 w1.drew none hJ1 ⟨rfl, rfl, rfl, Nat.le_refl _, fun _ _ _ => rfl⟩ (fun _ e => by cases e); have hKD : KeepW n₀ Bs W.heap.size W w1.drew := ⟨hKw1.os, hKw1.tape, hKw1.output, hKw1.size, hKw1.block⟩; have hcl1 := hcl' _ hO1; have hOk : w1.drew.ownsRow W.heap.size 9 1 (.slice (some ⟨g, 0, none⟩) m ncap) (op.take m).length (nameCells (op.take m)) := htk' _ hO1; obtain ⟨fn, tmps, assign, body, hy, hRd⟩ := hY _ (k, m) w1.drew hJD; dsimp only at hy)
          refine wpIn_wide.2 ?_
          refine wp_region_float (by kernel_rfl) (by kernel_rfl) (fun Wx => Wx = w1.drew) rfl ?_
          simp only [List.toList_toArray]
          repeat (first
            | (apply Flo.skip; · rfl
               simp only [Act.put, List.setIfInBounds_toArray, List.set_cons_zero, List.set_cons_succ])
            | (apply Flo.val; · rfl
               · (rintro Wx rfl; first | exact exec_index rfl rfl rfl (hix1 _) | exact exec_index rfl rfl rfl (hix2 _))
               simp only [Act.put, List.setIfInBounds_toArray, List.set_cons_zero, List.set_cons_succ])
            | (apply Flo.val; · rfl
               · (rintro Wx rfl; go_simp; with_reducible rfl)
               simp only [Act.put, List.setIfInBounds_toArray, List.set_cons_zero, List.set_cons_succ])
            | fail)
          rintro Wx rfl
          gi_wp2
          refine hRd.mono ?_
          rintro e W3 (⟨rfl, hJ3, hk3⟩ | ⟨rfl, hJx3⟩)
          · rw [← hys] at hJ3
            gi_wp2
            go_roundw
            case rel => exact ⟨k + 1, _, by omega, by go_num, hs, by first | omega | (simp; omega), owns_keep hOk (fun g h1 h2 => hk3.block g h2 (.inr (.inr h1))), hJ3, hKD.trans hk3⟩
            case measure => simp [intOf]; omega
          · rw [← hys] at hJx3
            gi_wp2
            refine bodyPost_ret (results_none rfl _ _ _) rfl ?_
            exact ⟨⟨_, rfl⟩, .inr ⟨_, ⟨k, hlt, rfl, by rw [hs]; rfl⟩, hJx3⟩⟩
        · have bl : (lst == tn) = false := by rw [beq_eq_false_iff_ne]; exact hlast
          have hs : opsTo tks (k + 1) = none := by rw [hst]; unfold stepT; rw [if_neg (by rw [hrt]; decide), if_neg (by simp), if_neg (by rintro ⟨_, _, h⟩; rw [em, hls] at h; exact hlast h), if_neg (by simp)]
          gi_wp2_with (refine ⟨trivial, ?_⟩; gi_at_call 42; refine (callsIn_wide.2 hR.out).mono ?_; rintro e w1 ⟨rfl, hb1⟩; rw [hrt]; obtain ⟨⟨e0, e1⟩, ⟨hJ1, hO1, hKw1, hs1⟩, hbx1, hpv1⟩ := hfacts _ hb1; have hJD : J (yields tks k) w1.drew := hJ _ w1 w1.drew none hJ1 ⟨rfl, rfl, rfl, Nat.le_refl _, fun _ _ _ => rfl⟩ (fun _ e => by cases e); have hKD : KeepW n₀ Bs W.heap.size W w1.drew := ⟨hKw1.os, hKw1.tape, hKw1.output, hKw1.size, hKw1.block⟩; have hcl1 := hcl' _ hO1)
          refine wpIn_wide.2 ?_
          refine wp_region_float (by kernel_rfl) (by kernel_rfl) (fun Wx => Wx = w1.drew) rfl ?_
          simp only [List.toList_toArray]
          repeat (first
            | (apply Flo.skip; · rfl
               simp only [Act.put, List.setIfInBounds_toArray, List.set_cons_zero, List.set_cons_succ])
            | (apply Flo.val; · rfl
               · (rintro Wx rfl; first | exact exec_index rfl rfl rfl (hix1 _) | exact exec_index rfl rfl rfl (hix2 _))
               simp only [Act.put, List.setIfInBounds_toArray, List.set_cons_zero, List.set_cons_succ])
            | (apply Flo.val; · rfl
               · (rintro Wx rfl; go_simp; with_reducible rfl)
               simp only [Act.put, List.setIfInBounds_toArray, List.set_cons_zero, List.set_cons_succ])
            | fail)
          rintro Wx rfl
          gi_wp2
          refine bodyPost_ret (results_none rfl _ _ _) rfl ?_
          exact ⟨⟨_, rfl⟩, .inl ⟨_, ⟨k, hk, rfl, by rw [hop]; rfl, .inr hs⟩, hJD⟩⟩
      have k2 : (tkk == 2) = false := by rw [beq_eq_false_iff_ne]; exact hk2
      by_cases hk3 : tkk = 3
      · subst hk3
        rcases Nat.eq_zero_or_pos op.length with h0 | h0
        · have b0 : decide ((0 : Int) < (op.length : Int)) = false := by rw [decide_eq_false_iff_not]; omega
          have hs : opsTo tks (k + 1) = none := by rw [hst]; simp [stepT, hrt, h0]
          gi_wp2_with (refine ⟨trivial, ?_⟩; gi_at_call 42; refine (callsIn_wide.2 hR.out).mono ?_; rintro e w1 ⟨rfl, hb1⟩; rw [hrt]; obtain ⟨⟨e0, e1⟩, ⟨hJ1, hO1, hKw1, hs1⟩, hbx1, hpv1⟩ := hfacts _ hb1; have hJD : J (yields tks k) w1.drew := hJ _ w1 w1.drew none hJ1 ⟨rfl, rfl, rfl, Nat.le_refl _, fun _ _ _ => rfl⟩ (fun _ e => by cases e); have hKD : KeepW n₀ Bs W.heap.size W w1.drew := ⟨hKw1.os, hKw1.tape, hKw1.output, hKw1.size, hKw1.block⟩)
          refine wpIn_wide.2 ?_
          refine wp_region_float (by kernel_rfl) (by kernel_rfl) (fun Wx => Wx = w1.drew) rfl ?_
          simp only [List.toList_toArray]
          repeat (first
            | (apply Flo.skip; · rfl
               simp only [Act.put, List.setIfInBounds_toArray, List.set_cons_zero, List.set_cons_succ])
            | (apply Flo.val; · rfl
               · (rintro Wx rfl; go_simp; with_reducible rfl)
               simp only [Act.put, List.setIfInBounds_toArray, List.set_cons_zero, List.set_cons_succ])
            | fail)
          rintro Wx rfl
          gi_wp2
          refine bodyPost_ret (results_none rfl _ _ _) rfl ?_
          exact ⟨⟨_, rfl⟩, .inl ⟨_, ⟨k, hk, rfl, by rw [hop]; rfl, .inr hs⟩, hJD⟩⟩
        have b0 : decide ((0 : Int) < (op.length : Int)) = true := by rw [decide_eq_true_eq]; omega
        have hk0 : 0 < k := by
          rcases Nat.eq_zero_or_pos k with h | h
          · subst h; simp [opsTo] at hop; subst hop; simp at h0
          · exact h
        have bk : (k : Int) - 1 = ((k - 1 : Nat) : Int) := by omega
        by_cases hp3 : prevK tks k = 3
        · have hs : opsTo tks (k + 1) = none := by rw [hst]; simp [stepT, hrt, hp3]
          gi_wp2_with (refine ⟨trivial, ?_⟩; gi_at_call 42; refine (callsIn_wide.2 hR.out).mono ?_; rintro e w1 ⟨rfl, hb1⟩; rw [hrt]; obtain ⟨⟨e0, e1⟩, ⟨hJ1, hO1, hKw1, hs1⟩, hbx1, hpv1⟩ := hfacts _ hb1; have hJD : J (yields tks k) w1.drew := hJ _ w1 w1.drew none hJ1 ⟨rfl, rfl, rfl, Nat.le_refl _, fun _ _ _ => rfl⟩ (fun _ e => by cases e); have hKD : KeepW n₀ Bs W.heap.size W w1.drew := ⟨hKw1.os, hKw1.tape, hKw1.output, hKw1.size, hKw1.block⟩; have hpv2 := hpv1 hk0; rw [hp3] at hpv2)
          refine wpIn_wide.2 ?_
          refine wp_region_float (by kernel_rfl) (by kernel_rfl) (fun Wx => Wx = w1.drew) rfl ?_
          simp only [List.toList_toArray]
          repeat (first
            | (apply Flo.skip; · rfl
               simp only [Act.put, List.setIfInBounds_toArray, List.set_cons_zero, List.set_cons_succ])
            | (apply Flo.val; · rfl
               · (rintro Wx rfl; go_simp; with_reducible rfl)
               simp only [Act.put, List.setIfInBounds_toArray, List.set_cons_zero, List.set_cons_succ])
            | fail)
          rintro Wx rfl
          gi_wp2
          refine bodyPost_ret (results_none rfl _ _ _) rfl ?_
          exact ⟨⟨_, rfl⟩, .inl ⟨_, ⟨k, hk, rfl, by rw [hop]; rfl, .inr hs⟩, hJD⟩⟩
        · have bp : (prevK tks k == 3) = false := by rw [beq_eq_false_iff_ne]; exact hp3
          have bp2 : (prevK tks k != 3) = true := by simp [bne, bp]
          have hs : opsTo tks (k + 1) = some (op) := by rw [hst]; simp [stepT, hrt, hp3, h0]
          have hys := yields_succ tks k
          rw [hs] at hys
          simp only [Option.getD_some] at hys
          gi_wp2_with (refine ⟨trivial, ?_⟩; gi_at_call 42; refine (callsIn_wide.2 hR.out).mono ?_; rintro e w1 ⟨rfl, hb1⟩; rw [hrt]; obtain ⟨⟨e0, e1⟩, ⟨hJ1, hO1, hKw1, hs1⟩, hbx1, hpv1⟩ := hfacts _ hb1; have hJD : J (yields tks k) w1.drew := hJ _ w1 w1.drew none hJ1 ⟨rfl, rfl, rfl, Nat.le_refl _, fun _ _ _ => rfl⟩ (fun _ e => by cases e); have hKD : KeepW n₀ Bs W.heap.size W w1.drew := ⟨hKw1.os, hKw1.tape, hKw1.output, hKw1.size, hKw1.block⟩; have hpv2 := hpv1 hk0; have hOk : w1.drew.ownsRow W.heap.size 9 1 (.slice nl op.length ncap) op.length (nameCells op) := hO1; obtain ⟨fn, tmps, assign, body, hy, hRd⟩ := hY _ (k, op.length) w1.drew hJD; dsimp only at hy)
          refine wpIn_wide.2 ?_
          refine wp_region_float (by kernel_rfl) (by kernel_rfl) (fun Wx => Wx = w1.drew) rfl ?_
          simp only [List.toList_toArray]
          repeat (first
            | (apply Flo.skip; · rfl
               simp only [Act.put, List.setIfInBounds_toArray, List.set_cons_zero, List.set_cons_succ])
            | (apply Flo.val; · rfl
               · (rintro Wx rfl; go_simp; with_reducible rfl)
               simp only [Act.put, List.setIfInBounds_toArray, List.set_cons_zero, List.set_cons_succ])
            | fail)
          rintro Wx rfl
          gi_wp2
          refine hRd.mono ?_
          rintro e W3 (⟨rfl, hJ3, hk3⟩ | ⟨rfl, hJx3⟩)
          · rw [← hys] at hJ3
            gi_wp2
            go_roundw
            case rel => exact ⟨k + 1, _, by omega, by go_num, hs, by first | omega | (simp; omega), owns_keep hOk (fun g h1 h2 => hk3.block g h2 (.inr (.inr h1))), hJ3, hKD.trans hk3⟩
            case measure => simp [intOf]; omega
          · rw [← hys] at hJx3
            gi_wp2
            refine bodyPost_ret (results_none rfl _ _ _) rfl ?_
            exact ⟨⟨_, rfl⟩, .inr ⟨_, ⟨k, hlt, rfl, by rw [hs]; rfl⟩, hJx3⟩⟩
      have k3 : (tkk == 3) = false := by rw [beq_eq_false_iff_ne]; exact hk3
      have hs : opsTo tks (k + 1) = none := by rw [hst]; simp [stepT, hrt, hk1, hk2, hk3]
      gi_wp2_with (refine ⟨trivial, ?_⟩; gi_at_call 42; refine (callsIn_wide.2 hR.out).mono ?_; rintro e w1 ⟨rfl, hb1⟩; rw [hrt]; obtain ⟨⟨e0, e1⟩, ⟨hJ1, hO1, hKw1, hs1⟩, hbx1, hpv1⟩ := hfacts _ hb1; have hJD : J (yields tks k) w1.drew := hJ _ w1 w1.drew none hJ1 ⟨rfl, rfl, rfl, Nat.le_refl _, fun _ _ _ => rfl⟩ (fun _ e => by cases e); have hKD : KeepW n₀ Bs W.heap.size W w1.drew := ⟨hKw1.os, hKw1.tape, hKw1.output, hKw1.size, hKw1.block⟩)
      refine wpIn_wide.2 ?_
      refine wp_region_float (by kernel_rfl) (by kernel_rfl) (fun Wx => Wx = w1.drew) rfl ?_
      simp only [List.toList_toArray]
      repeat (first
        | (apply Flo.skip; · rfl
           simp only [Act.put, List.setIfInBounds_toArray, List.set_cons_zero, List.set_cons_succ])
        | (apply Flo.val; · rfl
           · (rintro Wx rfl; go_simp; with_reducible rfl)
           simp only [Act.put, List.setIfInBounds_toArray, List.set_cons_zero, List.set_cons_succ])
        | fail)
      rintro Wx rfl
      gi_wp2
      refine bodyPost_ret (results_none rfl _ _ _) rfl ?_
      exact ⟨⟨_, rfl⟩, .inl ⟨_, ⟨k, hk, rfl, by rw [hop]; rfl, .inr hs⟩, hJD⟩⟩
    · have hkk : k = tks.length := by omega
      gi_wp2
      go_end0
      exact ⟨⟨_, rfl⟩, .inl ⟨_, ⟨k, hk, rfl, by rw [hop]; rfl, .inl hkk⟩, hJs⟩⟩
end Go.Proofs.YtjpdadibeocpfaaDoor
