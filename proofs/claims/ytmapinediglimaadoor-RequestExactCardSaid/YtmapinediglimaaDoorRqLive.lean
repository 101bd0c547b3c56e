/-
  What must be whatever is asked (live of layer 13). Condition: the library's variables are as they were laid.
-/
import Derived.Test.YtmapinediglimaaDoorRqDec
namespace Go.Proofs.YtmapinediglimaaDoor
set_option linter.unusedVariables false
set_option linter.unusedSimpArgs false
open Go.RowKit Go.MapKept
theorem decode_any (v : Value) (l : List Tk) (w : World) (h : TkS w v l) (hs : ∀ tk ∈ l, tk.small) (hT : Tabs w) :
    Calls Tryd.prog 10 #[v] w fun e w' => e = .returned (decV (decR l)) ∧ Below w.heap.size w w' := by
  by_cases hn : l.length = 4 ∨ l.length = 5
  · exact decode_long v l w h hs hn hT
  · exact decode_short v l w h hn
theorem itoa_len : ∀ n : Nat, n < 256 → (Lib.itoa n).length ≤ 20 := by decide +kernel
theorem itoa_short (n : Int) (h0 : 0 ≤ n) (h1 : n ≤ 255) : (Lib.itoa n).length ≤ 20 := by
  obtain ⟨k, rfl⟩ : ∃ k : Nat, n = k := ⟨n.toNat, by omega⟩
  exact itoa_len k (by omega)
def liveR : Rq := ⟨4, [110], [], [], 0, 0, 0, 0, [], false, []⟩
theorem liveR_right : rightR liveR = true := by decide +kernel
def subW : List UInt8 := [115, 117, 98, 115, 99, 114, 105, 98, 101]
theorem live_toks : (toksR liveR).length = 4 ∧ ∀ h : 1 < (toksR liveR).length, ((toksR liveR)[1]'h).n = subW := ⟨by decide +kernel, fun h => rfl⟩
theorem toks_small {r : Rq} (hs : r.small) (hr : rightR r = true) : ∀ tk ∈ toksR r, tk.small := by
  have hv := (right_parts hr).2.2.1
  have hvl : (verbL r.vb).length ≤ 20 := by rcases vb_cases hv with h | h | h | h | h | h | h | h | h | h | h | h | h | h | h <;> rw [h] <;> decide
  obtain ⟨h1, h2, h3, h4, h5, -⟩ := hs
  have hag := (right_parts hr).2.1
  have hat : ∀ p ∈ attrsR r, p.1.length ≤ 140737488351232 ∧ p.2.length ≤ 140737488351232 := by
    unfold argsR at hag
    intro p hp
    unfold attrsR moreA at hp
    rcases vb_cases hv with h | h | h | h | h | h | h | h | h | h | h | h | h | h | h
    all_goals
      rw [h] at hp hag
      simp only [reduceIte, Nat.reduceEqDiff, List.mem_cons, List.mem_nil_iff, or_false] at hp
      simp only [reduceIte, Nat.reduceEqDiff, Bool.and_eq_true, decide_eq_true_eq] at hag
      have hit : ∀ n : Int, 0 ≤ n → n ≤ 255 → (Lib.itoa n).length ≤ 140737488351232 := fun n q0 q1 => Nat.le_trans (itoa_short n q0 q1) (by omega)
      have hac : ∀ n, n ≤ 2 → (accL n).length ≤ 140737488351232 := fun n hn => by obtain rfl | rfl | rfl : n = 0 ∨ n = 1 ∨ n = 2 := (by omega); all_goals decide
      have hro : ∀ n, n ≤ 5 → (roleL n).length ≤ 140737488351232 := fun n hn => by obtain rfl | rfl | rfl | rfl | rfl | rfl : n = 0 ∨ n = 1 ∨ n = 2 ∨ n = 3 ∨ n = 4 ∨ n = 5 := (by omega); all_goals decide
      have hco : (if r.co then collectionW else leafW).length ≤ 140737488351232 := by cases r.co <;> decide
      have w1 : nodeW.length ≤ 140737488351232 ∧ itemW.length ≤ 140737488351232 ∧ jidW.length ≤ 140737488351232 ∧ parentW.length ≤ 140737488351232 ∧ roleW.length ≤ 140737488351232 ∧ accessW.length ≤ 140737488351232 ∧ typeW.length ≤ 140737488351232 ∧ maxW.length ≤ 140737488351232 ∧ depthW.length ≤ 140737488351232 := by decide
      obtain ⟨w1, w2, w3, w4, w5, w6, w7, w8, w9⟩ := w1
      first
        | (subst hp; exact ⟨w1, h1⟩)
        | (rcases hp with rfl | rfl
           · exact ⟨w1, h1⟩
           · first
               | exact ⟨w7, hco⟩
               | exact ⟨w9, hit _ hag.1 hag.2⟩
               | exact ⟨w3, h3⟩
               | exact ⟨w2, h2⟩
               | exact ⟨w4, h4⟩)
        | (rcases hp with rfl | rfl | rfl
           · exact ⟨w1, h1⟩
           · first
               | exact ⟨w6, hac _ hag.1.1⟩
               | exact ⟨w3, h3⟩
           · first
               | exact ⟨w8, hit _ hag.1.2 (by omega)⟩
               | exact ⟨w5, hro _ hag.1.2⟩)
  have hal : (attrsR r).length ≤ 3 := by
    unfold attrsR moreA
    repeat' split
    all_goals simp
  intro tk ht
  unfold toksR elemL at ht
  simp only [List.mem_cons, List.mem_append, List.mem_nil_iff, or_false] at ht
  rcases ht with rfl | (rfl | ht | rfl) | rfl
  · exact ⟨by decide, by simp, by simp, by simp⟩
  · exact ⟨by simp only; omega, by simp, by simp only; omega, hat⟩
  · unfold insideR at ht
    split at ht
    · cases ht
    · simp only [List.mem_cons, List.mem_nil_iff, or_false] at ht
      subst ht
      exact ⟨by simp, h5, by simp, by simp⟩
  · exact ⟨by simp only; omega, by simp, by simp, by simp⟩
  · exact ⟨by decide, by simp, by simp, by simp⟩
set_option maxRecDepth 100000 in
set_option maxHeartbeats 4000000 in
theorem live13_any (w : World) (hT : Tabs w) : Calls Tryd.prog 8 #[] w fun e w' => e = .returned (.bool true) ∧ Below w.heap.size w w' := by
  have hsm : liveR.small := ⟨by decide, by decide, by decide, by decide, by decide, by decide⟩
  have hEn : Hid (Calls Tryd.prog 7 #[.agg #[.int .u8 4, .string ⟨#[110]⟩, .string ⟨#[]⟩, .string ⟨#[]⟩, .int .u8 0, .int .u8 0, .int .i64 0, .int .i64 0, .string ⟨#[]⟩, .bool false, .string ⟨#[]⟩]] w fun e w' => ∃ v, e = .returned (.tuple #[v, .int .i64 0]) ∧ TkS w' v (toksR liveR) ∧ Below w.heap.size w w') := Lib.hid (by
    have := enc_any liveR w hsm hT.pow
    unfold encR at this
    rw [liveR_right] at this
    exact this)
  have hDe : Hid (∀ v W, TkS W v (toksR liveR) → Below w.heap.size w W → Calls Tryd.prog 10 #[v] W fun e w' => e = .returned (.tuple #[.agg #[.int .u8 4, .string ⟨#[110]⟩, .string ⟨#[]⟩, .string ⟨#[]⟩, .int .u8 0, .int .u8 0, .int .i64 0, .int .i64 0, .string ⟨#[]⟩, .bool false, .string ⟨#[]⟩], .int .i64 0]) ∧ Below W.heap.size W w') := Lib.hid fun v W h1 h2 => by
    have := decode_any v (toksR liveR) W h1 (toks_small hsm liveR_right) (hT.below h2)
    rw [dec_toks liveR_right] at this
    exact this
  obtain ⟨t1, t2⟩ := live_toks
  generalize toksR liveR = LT at hEn hDe t1 t2
  have hV : Hid (∀ W, Calls Tryd.prog 21 #[.int .u8 11] W fun e w' => e = .returned (.string ⟨#[112, 117, 114, 103, 101]⟩) ∧ Below W.heap.size W w') := Lib.hid fun W => verb_any 11 W
  replace hT := Lib.hid hT
  replace t2 := Lib.hid t2
  go_enter Tryd.func8, Tryd.ntmps8
  go_upto_region 2 with (go_at_call 7; refine hEn.out.mono ?_; rintro e w1 ⟨v1, rfl, hv1, hb1⟩; obtain ⟨vp, vc, rfl, vc1, vc2, vcell⟩ := hv1)
  have hv1 : TkS w1 (.slice vp LT.length vc) LT := ⟨vp, vc, rfl, vc1, vc2, vcell⟩
  obtain ⟨b, o, rfl, hb, hcc⟩ := vcell (by omega)
  obtain ⟨sv, d0, d1, d2, d3, -⟩ := hcc 1 (by omega)
  rw [t2.out (by omega), show o + 1 * 4 + 1 = o + 4 + 1 by omega] at d1
  unfold subW at d1
  replace hv1 := Lib.hid hv1
  replace hb1 := Lib.hid hb1
  clear hcc d0 d2 d3 vcell
  rw [t1] at hv1
  have hD2 := Lib.hid (hDe.out _ _ hv1.out hb1.out)
  clear hDe hEn
  go_wp2_with (first
    | (go_at_call 21; have m0 := hb2; refine (hV.out _).mono ?_; rintro e w3 ⟨rfl, hb3⟩; replace hb3 := Lib.hid hb3)
    | (go_at_call 10; refine hD2.out.mono ?_; rintro e w2 ⟨rfl, hb2⟩; obtain ⟨hc2, hf2⟩ := bat hb2 b hb; have hbl := Nat.lt_of_lt_of_le hb hb2.size; replace hb2 := Lib.hid hb2))
  go_ret
  refine ⟨rfl, ?_⟩
  refine belowT ?_ hb3.out
  have hbase := belowT hb1.out hb2.out
  repeat (first | with_reducible exact hbase | (with_reducible refine Below.setCell ?_ ?_ _; rotate_left; exact hbase.size) | (with_reducible refine Below.alloc ?_ ?_ _; rotate_left; exact hbase.size))
end Go.Proofs.YtmapinediglimaaDoor
