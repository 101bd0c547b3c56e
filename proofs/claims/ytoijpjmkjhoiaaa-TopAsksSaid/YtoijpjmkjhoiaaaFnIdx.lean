/-
  Nodes in memory: their affiliations and subscriptions; the first that a closure likes (slices.IndexFunc). Condition: at most 1000 of each.
-/
import Derived.Test.YtoijpjmkjhoiaaaFnPure
import Derived.Test.YtoijpjmkjhoiaaaBase
import Derived.Test.YtoijpjmkjhoiaaaProg
import Derived.WalkMore
import Derived.Deep.LoopGhost
import Derived.Shelf.Abstract
import Derived.LoopTactic
import Derived.RangeFuncKeeps
import Derived.Lib.Hide
namespace Go.Proofs.Ytoijpjmkjhoiaaa
set_option linter.unusedVariables false
set_option linter.unusedSimpArgs false
open Go.RowKit Go.MapKept Go.Shelf
def AfS (w : World) (v : Value) (l : List (Tx × Nat)) : Prop :=
  ∃ ptr cap, v = .slice ptr l.length cap ∧ l.length ≤ cap ∧ cap ≤ maxLen ∧ (0 < l.length → ∃ b o, ptr = some ⟨b, o, none⟩ ∧ b < w.heap.size ∧
    ∀ i (h : i < l.length), w.cell? ⟨b, o + i * 2, none⟩ = some (.string ⟨(l[i]'h).1.toArray⟩) ∧ w.cell? ⟨b, o + i * 2 + 1, none⟩ = some (.int .u8 (l[i]'h).2))
def SuS (w : World) (v : Value) (l : List (Tx × Bool × Int)) : Prop :=
  ∃ ptr cap, v = .slice ptr l.length cap ∧ l.length ≤ cap ∧ cap ≤ maxLen ∧ (0 < l.length → ∃ b o, ptr = some ⟨b, o, none⟩ ∧ b < w.heap.size ∧
    ∀ i (h : i < l.length), w.cell? ⟨b, o + i * 3, none⟩ = some (.string ⟨(l[i]'h).1.toArray⟩) ∧ w.cell? ⟨b, o + i * 3 + 1, none⟩ = some (.bool (l[i]'h).2.1) ∧ w.cell? ⟨b, o + i * 3 + 2, none⟩ = some (.int .i64 (l[i]'h).2.2))
theorem AfS.below {w w' : World} {v : Value} {l : List (Tx × Nat)} (h : AfS w v l) (hb : Below w.heap.size w w') : AfS w' v l := by
  obtain ⟨ptr, cap, h1, h2, h2', h3⟩ := h
  refine ⟨ptr, cap, h1, h2, h2', fun h0 => ?_⟩
  obtain ⟨b, o, h4, h5, h6⟩ := h3 h0
  exact ⟨b, o, h4, Nat.lt_of_lt_of_le h5 hb.size, fun i hi => ⟨(hb.cell (p := ⟨b, _, none⟩) h5).trans (h6 i hi).1, (hb.cell (p := ⟨b, _, none⟩) h5).trans (h6 i hi).2⟩⟩
theorem SuS.below {w w' : World} {v : Value} {l : List (Tx × Bool × Int)} (h : SuS w v l) (hb : Below w.heap.size w w') : SuS w' v l := by
  obtain ⟨ptr, cap, h1, h2, h2', h3⟩ := h
  refine ⟨ptr, cap, h1, h2, h2', fun h0 => ?_⟩
  obtain ⟨b, o, h4, h5, h6⟩ := h3 h0
  exact ⟨b, o, h4, Nat.lt_of_lt_of_le h5 hb.size, fun i hi => ⟨(hb.cell (p := ⟨b, _, none⟩) h5).trans (h6 i hi).1, (hb.cell (p := ⟨b, _, none⟩) h5).trans (h6 i hi).2.1, (hb.cell (p := ⟨b, _, none⟩) h5).trans (h6 i hi).2.2⟩⟩
/-- the place that IndexFunc tells -/
def IxAt {α : Type} (l : List α) (q : α → Bool) (i : Int) : Prop :=
  (i = -1 ∧ ∀ j (h : j < l.length), q (l[j]'h) = false) ∨ ∃ k : Nat, i = k ∧ ∃ hk : k < l.length, q (l[k]'hk) = true ∧ ∀ j (h : j < l.length), j < k → q (l[j]'h) = false
set_option maxHeartbeats 1000000 in
theorem ixAff_any (v : Value) (E : List (Tx × Nat)) (w : World) (hA : AfS w v E) (hl : E.length ≤ 1000) (g : Nat) (cb : Array Value) (q : Tx × Nat → Bool) (eg : ∀ args w, (callFunc g args).run Try.prog w = .ok (.enter g args) w)
    (hq : ∀ W e, Below w.heap.size w W → Calls Try.prog g (#[.agg #[.string ⟨e.1.toArray⟩, .int .u8 e.2]] ++ cb) W fun r w' => r = .returned (.bool (q e)) ∧ Below W.heap.size W w') :
    Calls Try.prog 34 #[v, .func (.func g) #[] cb] w fun e w' => ∃ i : Int, e = .returned (.int .i64 i) ∧ IxAt E q i ∧ Below w.heap.size w w' := by
  obtain ⟨ptr, cap, rfl, hc1, hc2, hat⟩ := hA
  obtain ⟨N, hN⟩ : ∃ N, E.length = N := ⟨_, rfl⟩
  have hN1 : N ≤ 1000 := by omega
  rw [hN]
  replace hN := Lib.hid hN
  replace hq := Lib.hid hq
  replace hat := Lib.hid hat
  clear hc1 hc2 hl
  go_enter Try.func34, Try.ntmps34
  go_wp2
  go_loopw [8] (fun s8 wr => ∃ k : Nat, k ≤ N ∧ s8 = .int .i64 k ∧ Hid (∀ i (h : i < E.length), i < k → q (E[i]'h) = false) ∧ Hid (Below w.heap.size w wr)) (fun s8 _ => N - (intOf s8).toNat)
  case atStart => exact ⟨0, Nat.zero_le _, rfl, Lib.hid (fun i _ hi => absurd hi (Nat.not_lt_zero _)), Lib.hid (Below.refl _ _)⟩
  case round =>
    obtain ⟨k, hk, rfl, hno, hB⟩ := hrel
    by_cases hlt : k < N
    · have hk3 : k < E.length := by have := hN.out; omega
      obtain ⟨b, o, rfl, hb, hcc⟩ := hat.out (by omega)
      obtain ⟨d0, d1⟩ := hcc k hk3
      have kc := fun (j : Nat) => hB.out.cell (p := ⟨b, j, none⟩) hb
      replace d0 := (kc _).trans d0
      replace d1 := (kc _).trans d1
      clear kc hcc
      have hqk := hq.out wr (E[k]'hk3) hB.out
      generalize hE : E[k] = x at d0 d1 hqk
      obtain ⟨ch, pa⟩ := x
      simp only at d0 d1 hqk
      replace hE := Lib.hid hE
      have hki : (k : Int) < (N : Int) := by omega
      have hk0 : (0 : Int) ≤ (k : Int) := by omega
      have hbw : b < wr.heap.size := Nat.lt_of_lt_of_le hb hB.out.size
      cases hx : q (ch, pa)
      · rw [hx] at hqk
        replace hqk := Lib.hid hqk
        go_wp2_with (go_at_fn g; refine hqk.out.mono ?_; rintro e w1 ⟨rfl, hb1⟩; replace hb1 := Lib.hid hb1)
        go_roundw
        case rel =>
          refine ⟨k + 1, by omega, by simp, Lib.hid (fun i h hi => ?_), Lib.hid (belowT hB.out hb1.out)⟩
          rcases Nat.lt_or_ge i k with h' | h'
          · exact hno.out i h h'
          · obtain rfl : i = k := by omega
            rw [hE.out]; exact hx
        case measure => simp [intOf]; omega
      · rw [hx] at hqk
        replace hqk := Lib.hid hqk
        go_wp2_with (go_at_fn g; refine hqk.out.mono ?_; rintro e w1 ⟨rfl, hb1⟩; replace hb1 := Lib.hid hb1)
        go_ret
        exact ⟨k, rfl, .inr ⟨k, rfl, hk3, by rw [hE.out]; exact hx, fun j h hj => hno.out j h hj⟩, belowT hB.out hb1.out⟩
    · have hki : ¬ (k : Int) < (N : Int) := by omega
      go_wp2
      go_ret
      exact ⟨-1, rfl, .inl ⟨rfl, fun j h => hno.out j h (by have := hN.out; omega)⟩, hB.out⟩
set_option maxHeartbeats 1000000 in
theorem ixSub_any (v : Value) (E : List (Tx × Bool × Int)) (w : World) (hA : SuS w v E) (hl : E.length ≤ 1000) (g : Nat) (cb : Array Value) (q : Tx × Bool × Int → Bool) (eg : ∀ args w, (callFunc g args).run Try.prog w = .ok (.enter g args) w)
    (hq : ∀ W e, Below w.heap.size w W → Calls Try.prog g (#[.agg #[.string ⟨e.1.toArray⟩, .bool e.2.1, .int .i64 e.2.2]] ++ cb) W fun r w' => r = .returned (.bool (q e)) ∧ Below W.heap.size W w') :
    Calls Try.prog 36 #[v, .func (.func g) #[] cb] w fun e w' => ∃ i : Int, e = .returned (.int .i64 i) ∧ IxAt E q i ∧ Below w.heap.size w w' := by
  obtain ⟨ptr, cap, rfl, hc1, hc2, hat⟩ := hA
  obtain ⟨N, hN⟩ : ∃ N, E.length = N := ⟨_, rfl⟩
  have hN1 : N ≤ 1000 := by omega
  rw [hN]
  replace hN := Lib.hid hN
  replace hq := Lib.hid hq
  replace hat := Lib.hid hat
  clear hc1 hc2 hl
  go_enter Try.func36, Try.ntmps36
  go_wp2
  go_loopw [8] (fun s8 wr => ∃ k : Nat, k ≤ N ∧ s8 = .int .i64 k ∧ Hid (∀ i (h : i < E.length), i < k → q (E[i]'h) = false) ∧ Hid (Below w.heap.size w wr)) (fun s8 _ => N - (intOf s8).toNat)
  case atStart => exact ⟨0, Nat.zero_le _, rfl, Lib.hid (fun i _ hi => absurd hi (Nat.not_lt_zero _)), Lib.hid (Below.refl _ _)⟩
  case round =>
    obtain ⟨k, hk, rfl, hno, hB⟩ := hrel
    by_cases hlt : k < N
    · have hk3 : k < E.length := by have := hN.out; omega
      obtain ⟨b, o, rfl, hb, hcc⟩ := hat.out (by omega)
      obtain ⟨d0, d1, d2⟩ := hcc k hk3
      have kc := fun (j : Nat) => hB.out.cell (p := ⟨b, j, none⟩) hb
      replace d0 := (kc _).trans d0
      replace d1 := (kc _).trans d1
      replace d2 := (kc _).trans d2
      clear kc hcc
      have hqk := hq.out wr (E[k]'hk3) hB.out
      generalize hE : E[k] = x at d0 d1 d2 hqk
      obtain ⟨ch, pa, dp⟩ := x
      simp only at d0 d1 d2 hqk
      replace hE := Lib.hid hE
      have hki : (k : Int) < (N : Int) := by omega
      have hk0 : (0 : Int) ≤ (k : Int) := by omega
      have hbw : b < wr.heap.size := Nat.lt_of_lt_of_le hb hB.out.size
      cases hx : q (ch, pa, dp)
      · rw [hx] at hqk
        replace hqk := Lib.hid hqk
        go_wp2_with (go_at_fn g; refine hqk.out.mono ?_; rintro e w1 ⟨rfl, hb1⟩; replace hb1 := Lib.hid hb1)
        go_roundw
        case rel =>
          refine ⟨k + 1, by omega, by simp, Lib.hid (fun i h hi => ?_), Lib.hid (belowT hB.out hb1.out)⟩
          rcases Nat.lt_or_ge i k with h' | h'
          · exact hno.out i h h'
          · obtain rfl : i = k := by omega
            rw [hE.out]; exact hx
        case measure => simp [intOf]; omega
      · rw [hx] at hqk
        replace hqk := Lib.hid hqk
        go_wp2_with (go_at_fn g; refine hqk.out.mono ?_; rintro e w1 ⟨rfl, hb1⟩; replace hb1 := Lib.hid hb1)
        go_ret
        exact ⟨k, rfl, .inr ⟨k, rfl, hk3, by rw [hE.out]; exact hx, fun j h hj => hno.out j h hj⟩, belowT hB.out hb1.out⟩
    · have hki : ¬ (k : Int) < (N : Int) := by omega
      go_wp2
      go_ret
      exact ⟨-1, rfl, .inl ⟨rfl, fun j h => hno.out j h (by have := hN.out; omega)⟩, hB.out⟩
end Go.Proofs.Ytoijpjmkjhoiaaa
