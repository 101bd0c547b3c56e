/-
  The closures of node.set, node.drop and node.Affiliate, by the program. Condition: what the handed function says is told ahead.
-/
import Derived.Test.YtoijpjmkjhoiaaaAsAff
import Derived.Test.YtoijpjmkjhoiaaaTtRise
import Derived.Test.YtoijpjmkjhoiaaaShelf
namespace Go.Proofs.Ytoijpjmkjhoiaaa
set_option linter.unusedVariables false
set_option linter.unusedSimpArgs false
open Go.RowKit Go.MapKept Go.Shelf
theorem isOwner_any (e : Tx × Nat) (w : World) : Calls Try.prog 24 #[.agg #[.string ⟨e.1.toArray⟩, .int .u8 e.2]] w fun r w' => r = .returned (.bool ((e.2 : Int) == 5)) ∧ Below w.heap.size w w' := by
  obtain ⟨j, r⟩ := e
  simp only
  go_enter Try.func24, Try.ntmps24
  go_wp2
  go_ret
  exact ⟨rfl, below1 _ _⟩
theorem ownerIn_any (v : Value) (l : List (Tx × Nat)) (w : World) (hA : AfS w v l) (hl : l.length ≤ 16) :
    Calls Try.prog 23 #[v, .func (.func 24) #[] #[]] w fun e w' => e = .returned (.bool (l.any fun e => (e.2 : Int) == 5)) ∧ Below w.heap.size w w' := by
  have eg := enters_of (P := Try.prog) Try.func24 (by kernel_rfl) rfl
  have hb := Lib.hid (ixAff_any v l w hA (by omega) 24 #[] (fun e => (e.2 : Int) == 5) eg (fun W e _ => isOwner_any e W))
  have hno : Hid (∀ i, IxAt l (fun e => (e.2 : Int) == 5) i → decide (0 ≤ i) = l.any fun e => (e.2 : Int) == 5) := Lib.hid (by
    rintro i (⟨rfl, h⟩ | ⟨k, rfl, hk, h, -⟩)
    · have : (l.any fun e => (e.2 : Int) == 5) = false := by
        rw [List.any_eq_false]
        intro x hx
        obtain ⟨q, hq, rfl⟩ := List.getElem_of_mem hx
        simpa using h q hq
      rw [this]; rfl
    · have : (l.any fun e => (e.2 : Int) == 5) = true := List.any_eq_true.2 ⟨_, List.getElem_mem hk, h⟩
      rw [this]; simp)
  generalize (l.any fun e => (e.2 : Int) == 5) = R at hno ⊢
  obtain ⟨p, cap, rfl, -⟩ := hA
  go_enter Try.func23, Try.ntmps23
  go_wp2_with (go_at_call 34; refine hb.out.mono ?_; rintro e w1 ⟨i, rfl, h1, h2⟩; have h3 := Lib.hid (hno.out i h1); clear h1; replace h2 := Lib.hid h2)
  go_ret
  exact ⟨by rw [← h3.out]; rfl, h2.out⟩
set_option maxRecDepth 100000 in
set_option maxHeartbeats 4000000 in
theorem dropSub1_any (e : Tx × Bool × Int) (s : Tx) (Bo Bw : Nat) (W : World) (hbo : W.heap[Bo]? = some (.cells #[.func (.func 16) #[] #[]] 51)) (hbw : W.heap[Bw]? = some (.cells #[.string ⟨s.toArray⟩] 9)) :
    Calls Try.prog 46 #[.agg #[.string ⟨e.1.toArray⟩, .bool e.2.1, .int .i64 e.2.2], .pointer (some ⟨Bo, 0, none⟩), .pointer (some ⟨Bw, 0, none⟩)] W fun r w' => r = .returned (.bool (e.1 == s)) ∧ Below W.heap.size W w' := by
  have eg := enters_of (P := Try.prog) Try.func16 (by kernel_rfl) rfl
  obtain ⟨oc, -, ol⟩ := obj_cells hbo
  obtain ⟨wc, -, wl⟩ := obj_cells hbw
  have o0 := oc 0
  have w0 := wc 0
  simp only [List.getElem?_toArray, List.getElem?_cons_zero] at o0 w0
  obtain ⟨j, p, d⟩ := e
  simp only
  have hOf : Hid (∀ W, Calls Try.prog 16 #[.agg #[.string ⟨j.toArray⟩, .bool p, .int .i64 d]] W fun e w' => e = .returned (.string ⟨j.toArray⟩) ∧ Below W.heap.size W w') := Lib.hid fun W => subOf_any j p d W
  clear hbo hbw oc wc
  go_enter Try.func46, Try.ntmps46
  go_upto_region 1 with (fail)
  refine wp_region_float (by kernel_rfl) (by kernel_rfl) (fun V => V.cell? ⟨W.heap.size, 0, none⟩ = some (.string ⟨j.toArray⟩) ∧ V.cell? ⟨W.heap.size, 1, none⟩ = some (.bool p) ∧ V.cell? ⟨W.heap.size, 2, none⟩ = some (.int .i64 d) ∧ Below W.heap.size W V ∧ W.heap.size < V.heap.size) (by refine ⟨?_, ?_, ?_, (below1 _ _).drew, ?_⟩ <;> simp) ?_
  simp only [List.toList_toArray]
  repeat (first
    | (apply Flo.val; · rfl
       · (intro V hSw; obtain ⟨hs0, hs1, hs2, hs5, hs3⟩ := hSw; have q0 := (hs5.cell (p := ⟨Bo, 0, none⟩) ol).trans o0; have q1 := (hs5.cell (p := ⟨Bw, 0, none⟩) wl).trans w0; have q2 := Nat.lt_of_lt_of_le ol hs5.size; have q3 := Nat.lt_of_lt_of_le wl hs5.size; replace hs5 := Lib.hid hs5; go_simp; (try with_reducible rfl))
       simp only [Act.put, List.setIfInBounds_toArray, List.set_cons_zero, List.set_cons_succ])
    | (apply Flo.call; · rfl
       · (intro V hSw; obtain ⟨hs0, hs1, hs2, -, hs3⟩ := hSw; go_simp; first | exact ⟨rfl, rfl⟩ | with_reducible rfl)
       · (intro V hSw; exact (hOf.out _).mono (fun e w'' h => ⟨h.1, keep3s hSw h.2⟩))
       simp only [Act.put, List.setIfInBounds_toArray, List.set_cons_zero, List.set_cons_succ])
    | fail)
  intro V hSw
  replace hSw := Lib.hid hSw
  go_wp2_with fail
  go_ret
  exact ⟨rfl, hSw.out.2.2.2.1⟩
set_option maxHeartbeats 2000000 in
theorem setSub1_any (e : Tx × Bool × Int) (s : Tx) (Bo : Nat) (W : World) (hbo : W.heap[Bo]? = some (.cells #[.func (.func 16) #[] #[]] 51)) :
    Calls Try.prog 42 #[.agg #[.string ⟨e.1.toArray⟩, .bool e.2.1, .int .i64 e.2.2], .string ⟨s.toArray⟩, .pointer (some ⟨Bo, 0, none⟩)] W fun r w' => r = .returned (.int .i64 (Lib.compareBytes e.1 s)) ∧ Below W.heap.size W w' := by
  have eg := enters_of (P := Try.prog) Try.func16 (by kernel_rfl) rfl
  obtain ⟨oc, -, ol⟩ := obj_cells hbo
  have o0 := oc 0
  simp only [List.getElem?_toArray, List.getElem?_cons_zero] at o0
  obtain ⟨j, p, d⟩ := e
  simp only
  have hOf : Hid (∀ W, Calls Try.prog 16 #[.agg #[.string ⟨j.toArray⟩, .bool p, .int .i64 d]] W fun e w' => e = .returned (.string ⟨j.toArray⟩) ∧ Below W.heap.size W w') := Lib.hid fun W => subOf_any j p d W
  have hCm : Hid (∀ W, Calls Try.prog 43 #[.string ⟨j.toArray⟩, .string ⟨s.toArray⟩] W fun e w' => e = .returned (.int .i64 (Lib.compareBytes j s)) ∧ w' = W) := Lib.hid fun W => by
    have := Try.strings_Compare ⟨j.toArray⟩ ⟨s.toArray⟩ W
    simpa using this
  have hB1 := Lib.hid (below1 W (.cells #[.string ⟨j.toArray⟩, .bool p, .int .i64 d] 46))
  clear hbo oc
  go_enter Try.func42, Try.ntmps42
  go_wp2_with (first
    | (go_at_call 43; refine (hCm.out _).mono ?_; rintro e w2 ⟨rfl, rfl⟩)
    | (go_at_call 16; refine (hOf.out _).mono ?_; rintro e w1 ⟨rfl, hb1⟩; replace hb1 := Lib.hid (belowT hB1.out hb1)))
  go_ret
  exact ⟨rfl, hb1.out⟩
set_option maxHeartbeats 2000000 in
theorem setAff1_any (e : Tx × Nat) (s : Tx) (Bo : Nat) (W : World) (hbo : W.heap[Bo]? = some (.cells #[.func (.func 21) #[] #[]] 59)) :
    Calls Try.prog 52 #[.agg #[.string ⟨e.1.toArray⟩, .int .u8 e.2], .string ⟨s.toArray⟩, .pointer (some ⟨Bo, 0, none⟩)] W fun r w' => r = .returned (.int .i64 (Lib.compareBytes e.1 s)) ∧ Below W.heap.size W w' := by
  have eg := enters_of (P := Try.prog) Try.func21 (by kernel_rfl) rfl
  obtain ⟨oc, -, ol⟩ := obj_cells hbo
  have o0 := oc 0
  simp only [List.getElem?_toArray, List.getElem?_cons_zero] at o0
  obtain ⟨j, r⟩ := e
  simp only
  have hOf : Hid (∀ W, Calls Try.prog 21 #[.agg #[.string ⟨j.toArray⟩, .int .u8 r]] W fun e w' => e = .returned (.string ⟨j.toArray⟩) ∧ Below W.heap.size W w') := Lib.hid fun W => affOf_any j r W
  have hCm : Hid (∀ W, Calls Try.prog 43 #[.string ⟨j.toArray⟩, .string ⟨s.toArray⟩] W fun e w' => e = .returned (.int .i64 (Lib.compareBytes j s)) ∧ w' = W) := Lib.hid fun W => by
    have := Try.strings_Compare ⟨j.toArray⟩ ⟨s.toArray⟩ W
    simpa using this
  have hB1 := Lib.hid (below1 W (.cells #[.string ⟨j.toArray⟩, .int .u8 r] 25))
  clear hbo oc
  go_enter Try.func52, Try.ntmps52
  go_wp2_with (first
    | (go_at_call 43; refine (hCm.out _).mono ?_; rintro e w2 ⟨rfl, rfl⟩)
    | (go_at_call 21; refine (hOf.out _).mono ?_; rintro e w1 ⟨rfl, hb1⟩; replace hb1 := Lib.hid (belowT hB1.out hb1)))
  go_ret
  exact ⟨rfl, hb1.out⟩
end Go.Proofs.Ytoijpjmkjhoiaaa
