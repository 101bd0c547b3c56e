/-
  What is of an address is taken out of a list (node.drop), by the program. Condition: the list is empty, or of one that is of the address, in a row of the call's own.
-/
import Derived.Test.YtoijpjmkjhoiaaaAsRow
namespace Go.Proofs.Ytoijpjmkjhoiaaa
set_option linter.unusedVariables false
set_option linter.unusedSimpArgs false
open Go.RowKit Go.MapKept Go.Shelf
theorem owns_lex {w : World} {base : Nat} {e : TypeId} {size n c : Nat} {a : Option Addr} {xs : List Value} (h : w.ownsRow base e size (.slice a n c) n xs) : n ≤ c := by
  rcases h.2 with ⟨hv, h0⟩ | ⟨g, cap, cur, hv, _, _, h1, _⟩
  · omega
  · injection hv with _ _ h3
    omega
set_option maxRecDepth 100000 in
set_option maxHeartbeats 4000000 in
theorem delSub0_any (p : Option Addr) (c : Nat) (hc : c ≤ maxLen) (w : World) (g : Nat) (cb : Array Value) (eg : ∀ args w, (callFunc g args).run Try.prog w = .ok (.enter g args) w)
    (q : Tx × Bool × Int → Bool)
    (hq : ∀ W (e : Tx × Bool × Int), Below w.heap.size w W → Calls Try.prog g (#[.agg #[.string ⟨e.1.toArray⟩, .bool e.2.1, .int .i64 e.2.2]] ++ cb) W fun r w' => r = .returned (.bool (q e)) ∧ Below W.heap.size W w') :
    Calls Try.prog 45 #[.slice p 0 c, .func (.func g) #[] cb] w fun e w' => e = .returned (.slice p 0 c) ∧ Below w.heap.size w w' := by
  have hix := Lib.hid (ixSub_any (.slice p 0 c) [] w ⟨p, c, rfl, by simp, hc, fun h => absurd h (by simp)⟩ (by simp) g cb q eg hq)
  go_enter Try.func45, Try.ntmps45
  go_wp2_with (go_at_call 36; refine hix.out.mono ?_; rintro e w1 ⟨i, rfl, hi, hb1⟩
               obtain rfl : i = -1 := (by rcases hi with ⟨h, -⟩ | ⟨k, -, hk, -⟩
                                          · exact h
                                          · exact absurd hk (by simp))
               clear hi
               replace hb1 := Lib.hid hb1)
  go_ret
  exact ⟨rfl, hb1.out⟩
set_option maxRecDepth 100000 in
set_option maxHeartbeats 4000000 in
theorem delSub1_any (x : Tx × Bool × Int) (gb c base : Nat) (w : World) (hO : w.ownsRow base 46 3 (.slice (some ⟨gb, 0, none⟩) 1 c) 1 (suC [x])) (g : Nat) (cb : Array Value) (eg : ∀ args w, (callFunc g args).run Try.prog w = .ok (.enter g args) w) (q : Tx × Bool × Int → Bool) (hx : q x = true)
    (hq : ∀ W (e : Tx × Bool × Int), Below w.heap.size w W → Calls Try.prog g (#[.agg #[.string ⟨e.1.toArray⟩, .bool e.2.1, .int .i64 e.2.2]] ++ cb) W fun r w' => r = .returned (.bool (q e)) ∧ Below W.heap.size W w') :
    Calls Try.prog 45 #[.slice (some ⟨gb, 0, none⟩) 1 c, .func (.func g) #[] cb] w fun e w' => e = .returned (.slice (some ⟨gb, 0, none⟩) 0 c) ∧ w'.ownsRow base 46 3 (.slice (some ⟨gb, 0, none⟩) 0 c) 0 (suC []) ∧ Below base w w' ∧ w.grownBy w' (some gb) := by
  have hix := Lib.hid (ixSub_any (.slice (some ⟨gb, 0, none⟩) 1 c) [x] w (owns_sus (l := [x]) hO) (by simp) g cb q eg hq)
  have hg := hO.lt gb rfl
  have hc := owns_lex hO
  have hcl : Hid (∀ (W : World), Below w.heap.size w W → ∀ ty, (Builtin.clear_ #[27] ty #[.slice (some ⟨gb, 0, none⟩) 1 c]).run Try.prog W = .ok (.tuple #[]) (W.setCells gb 0 [.string ⟨#[]⟩, .bool false, .int .i64 0])) := Lib.hid fun W hW ty => by
    refine run_clear3 W _ _ ty Try.underlying27 zeroSu gb 0 c (fun j hj => ?_) (fun j hj => ?_)
    · rw [Nat.zero_add, hW.cell (p := ⟨gb, j, none⟩) hg.2, hO.cellAt j (by omega)]
      have : (suC [x]).length = 3 := by rw [suC_len]; rfl
      rw [List.getElem?_eq_getElem (by omega)]; rfl
    · rw [Nat.zero_add, hW.frozen (p := ⟨gb, j, none⟩) hg.2]
      exact hO.frozenAt j
  have hfin : Hid (∀ (W : World), Below w.heap.size w W → (W.setCells gb 0 [.string ⟨#[]⟩, .bool false, .int .i64 0]).ownsRow base 46 3 (.slice (some ⟨gb, 0, none⟩) 0 c) 0 (suC []) ∧ Below base w (W.setCells gb 0 [.string ⟨#[]⟩, .bool false, .int .i64 0]) ∧ w.grownBy (W.setCells gb 0 [.string ⟨#[]⟩, .bool false, .int .i64 0]) (some gb)) := Lib.hid fun W hW => by
    have st : ∀ (V : World) (i : Nat) (v : Value), V.ownsRow base 46 3 (.slice (some ⟨gb, 0, none⟩) 0 c) 0 (suC []) ∧ Below base w V ∧ w.grownBy V (some gb) → (V.setCell ⟨gb, i, none⟩ v).ownsRow base 46 3 (.slice (some ⟨gb, 0, none⟩) 0 c) 0 (suC []) ∧ Below base w (V.setCell ⟨gb, i, none⟩ v) ∧ w.grownBy (V.setCell ⟨gb, i, none⟩ v) (some gb) := fun V i v ⟨h1, h2, h3⟩ => ⟨by
      refine ⟨h1.1, ?_⟩
      rcases h1.2 with ⟨h, -⟩ | ⟨g', cap, cur, e, k1, k2, k3, k4, k5, k6⟩
      · cases h
      · obtain ⟨e1, -, e3⟩ := Value.slice.inj e
        injection e1 with e1
        injection e1 with e1 _ _
        subst e1 e3
        exact .inr ⟨gb, c, _, rfl, k1, obj_set k2 v, k3, k4, by simpa using k5, by simp [suC]⟩, h2.setCell (p := ⟨gb, i, none⟩) hg.1 v, ⟨h3.os, h3.tape, h3.output, by rw [World.size_setCell]; exact h3.size, fun j hj hne => (Below.heap_setCell _ _ _ _ (fun e => hne (by rw [e]))).trans (h3.block j hj hne)⟩⟩
    have h0 : W.ownsRow base 46 3 (.slice (some ⟨gb, 0, none⟩) 0 c) 0 (suC []) ∧ Below base w W ∧ w.grownBy W (some gb) := ⟨by
      refine ⟨rfl, ?_⟩
      rcases hO.2 with ⟨h, -⟩ | ⟨g', cap, cur, e, k1, k2, k3, k4, k5, k6⟩
      · cases h
      · obtain ⟨e1, -, e3⟩ := Value.slice.inj e
        injection e1 with e1
        injection e1 with e1 _ _
        subst e1 e3
        exact .inr ⟨gb, c, cur, rfl, k1, (hW.block gb hg.2).trans k2, by omega, k4, k5, by simp [suC]⟩, hW.mono (Nat.le_of_lt (Nat.lt_of_le_of_lt hg.1 hg.2)), ⟨hW.os, hW.tape, hW.output, hW.size, fun k hk _ => hW.block k hk⟩⟩
    exact st _ _ _ (st _ _ _ (st _ _ _ h0))
  clear hg hO
  have hc1 : (0 : Int) ≤ (c : Int) := by omega
  go_enter Try.func45, Try.ntmps45
  go_wp2_with (go_at_call 36; refine hix.out.mono ?_; rintro e w1 ⟨i, rfl, hi, hb1⟩
               obtain rfl : i = 0 := (by rcases hi with ⟨h, hno⟩ | ⟨k, rfl, hk, -⟩
                                         · have := hno 0 (by simp); simp only [List.getElem_cons_zero] at this; rw [hx] at this; cases this
                                         · have : k < 1 := (by simpa using hk)
                                           omega)
               clear hi
               replace hb1 := Lib.hid hb1)
  go_loop [5, 6] (fun s5 s6 => s5 = .int .i64 0 ∧ s6 = .int .i64 1) (fun _ _ => 0)
  case atStart => exact ⟨rfl, rfl⟩
  case round =>
    obtain ⟨rfl, rfl⟩ := hrel
    have hcI := hcl.out w1 hb1.out
    have hfI := Lib.hid (hfin.out w1 hb1.out)
    go_wp2
    go_ret
    exact ⟨rfl, hfI.out⟩
theorem boxes_drop (w : World) (s : Tx) : ∃ w2, (w.alloc (.cells #[.string ⟨s.toArray⟩] 9)).alloc (.cells #[.func (.func 16) #[] #[]] 51) = w2 ∧ Below w.heap.size w w2 ∧ w2.heap[w.heap.size + 1]? = some (.cells #[.func (.func 16) #[] #[]] 51 (0, 0)) ∧ w2.heap[w.heap.size]? = some (.cells #[.string ⟨s.toArray⟩] 9 (0, 0)) := by
  refine ⟨_, rfl, belowA (below1 _ _) _, ?_, obj_alloc (heap_alloc w _).1⟩
  have := bare_nd (w.alloc (.cells #[.string ⟨s.toArray⟩] 9)) (.cells #[.func (.func 16) #[] #[]] 51)
  rwa [World.size_alloc] at this
set_option maxRecDepth 100000 in
set_option maxHeartbeats 2000000 in
theorem dropSub0_any (s : Tx) (p : Option Addr) (c : Nat) (hc : c ≤ maxLen) (w : World) :
    Calls Try.prog 18 #[.slice p 0 c, .string ⟨s.toArray⟩, .func (.func 16) #[] #[]] w fun e w' => e = .returned (.slice p 0 c) ∧ Below w.heap.size w w' := by
  have eg := enters_of (P := Try.prog) Try.func46 (by kernel_rfl) rfl
  obtain ⟨w2, hw2, hB2, ho, hw⟩ := boxes_drop w s
  have hD := Lib.hid (delSub0_any p c hc w2 46 #[.pointer (some ⟨w.heap.size + 1, 0, none⟩), .pointer (some ⟨w.heap.size, 0, none⟩)] eg (fun e => e.1 == s) fun W e hW => dropSub1_any e s _ _ W ((hW.block _ (Array.getElem?_eq_some_iff.1 ho).1).trans ho) ((hW.block _ (Array.getElem?_eq_some_iff.1 hw).1).trans hw))
  replace hB2 := Lib.hid hB2
  clear ho hw eg
  go_enter Try.func18, Try.ntmps18
  go_wp2_with (go_at_call 45; refine hD.out.mono ?_; rintro e w3 ⟨rfl, hb3⟩; replace hb3 := Lib.hid hb3)
  go_ret
  exact ⟨rfl, belowT hB2.out hb3.out⟩
set_option maxRecDepth 100000 in
set_option maxHeartbeats 2000000 in
theorem dropSub1x_any (s : Tx) (pd : Bool) (d : Int) (gb c base : Nat) (w : World) (hO : w.ownsRow base 46 3 (.slice (some ⟨gb, 0, none⟩) 1 c) 1 (suC [(s, pd, d)])) :
    Calls Try.prog 18 #[.slice (some ⟨gb, 0, none⟩) 1 c, .string ⟨s.toArray⟩, .func (.func 16) #[] #[]] w fun e w' => e = .returned (.slice (some ⟨gb, 0, none⟩) 0 c) ∧ w'.ownsRow base 46 3 (.slice (some ⟨gb, 0, none⟩) 0 c) 0 (suC []) ∧ Below base w w' ∧ w.grownBy w' (some gb) := by
  have eg := enters_of (P := Try.prog) Try.func46 (by kernel_rfl) rfl
  obtain ⟨w2, hw2, hB2, ho, hw⟩ := boxes_drop w s
  have hO2 : w2.ownsRow base 46 3 (.slice (some ⟨gb, 0, none⟩) 1 c) 1 (suC [(s, pd, d)]) := by
    refine ⟨hO.1, ?_⟩
    rcases hO.2 with h2 | ⟨g, cap, cur, h1, h2, h3, h4⟩
    · exact .inl h2
    · exact .inr ⟨g, cap, cur, h1, h2, (hB2.block g (Array.getElem?_eq_some_iff.1 h3).1).trans h3, h4⟩
  have hg := hO.lt gb rfl
  have hD := Lib.hid (delSub1_any (s, pd, d) gb c base w2 hO2 46 #[.pointer (some ⟨w.heap.size + 1, 0, none⟩), .pointer (some ⟨w.heap.size, 0, none⟩)] eg (fun e => e.1 == s) (by simp) fun W e hW => dropSub1_any e s _ _ W ((hW.block _ (Array.getElem?_eq_some_iff.1 ho).1).trans ho) ((hW.block _ (Array.getElem?_eq_some_iff.1 hw).1).trans hw))
  have hB2' := Lib.hid hB2
  replace hB2 := Lib.hid (hB2.mono (Nat.le_of_lt (Nat.lt_of_le_of_lt hg.1 hg.2)) : Below base w w2)
  clear ho hw eg hO hO2 hg
  go_enter Try.func18, Try.ntmps18
  go_wp2_with (go_at_call 45; refine hD.out.mono ?_; rintro e w3 ⟨rfl, hO3, hb3, hG3⟩; replace hG3 := Lib.hid hG3; replace hb3 := Lib.hid hb3; replace hO3 := Lib.hid hO3)
  go_ret
  exact ⟨rfl, hO3.out, hB2.out.trans hb3.out, grown_pre hB2'.out hG3.out⟩
end Go.Proofs.Ytoijpjmkjhoiaaa
