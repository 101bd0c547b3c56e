/-
  Equality of an array of five texts, of which the last is empty. No condition.
-/
import Derived.Test.YtjpdadibeocpfaaDoorStPuA
import Derived.Laws.StructEq
import Derived.WalkKit
import Derived.Test.YtjpdadibeocpfaaDoorWrEl
namespace Go.Proofs.YtjpdadibeocpfaaDoor
set_option linter.unusedVariables false
set_option linter.unusedSimpArgs false
open Go.RowKit Go.MapKept
theorem eq5 (a0 a1 a2 a3 b0 b1 b2 b3 : List UInt8) (w : World) : (Op.equalIn 10000 87 (.agg #[.string ⟨a0.toArray⟩, .string ⟨a1.toArray⟩, .string ⟨a2.toArray⟩, .string ⟨a3.toArray⟩, .string ⟨#[]⟩]) (.agg #[.string ⟨b0.toArray⟩, .string ⟨b1.toArray⟩, .string ⟨b2.toArray⟩, .string ⟨b3.toArray⟩, .string ⟨#[]⟩])).run Tryd.prog w = .ok (decide (a0 = b0) && decide (a1 = b1) && decide (a2 = b2) && decide (a3 = b3)) w := by
  have u3 := Tryd.underlying9
  have a3' := Tryd.isAgg9
  have z3 := Tryd.sizeOf9
  have hs := fun (a b : ByteArray) (w : World) => run_equalIn_string w 9998 9 a b u3
  rw [show (10000 : Nat) = 9999 + 1 from rfl, Op.equalIn]
  simp only [Sem.run_bind, run_underlying Tryd.underlying87, Result.andThen_ok]
  simp only [Std.Legacy.Range.forIn_eq_forIn_range', Std.Legacy.Range.size, Nat.sub_zero, Nat.add_sub_cancel, Nat.div_one, List.range'_succ, List.range'_zero, List.forIn_cons, List.forIn_nil]
  go_simp
  by_cases h0 : a0 = b0
  · by_cases h1 : a1 = b1
    · by_cases h2 : a2 = b2
      · by_cases h3 : a3 = b3 <;> simp [h0, h1, h2, h3]
      · simp [h0, h1, h2]
    · simp [h0, h1]
  · simp [h0]
theorem eq5b (a0 a1 a2 a3 b0 b1 b2 b3 : List UInt8) (w : World) : (binOp .eql 87 (.agg #[.string ⟨a0.toArray⟩, .string ⟨a1.toArray⟩, .string ⟨a2.toArray⟩, .string ⟨a3.toArray⟩, .string ⟨#[]⟩]) (.agg #[.string ⟨b0.toArray⟩, .string ⟨b1.toArray⟩, .string ⟨b2.toArray⟩, .string ⟨b3.toArray⟩, .string ⟨#[]⟩])).run Tryd.prog w = .ok (.bool (decide (a0 = b0) && decide (a1 = b1) && decide (a2 = b2) && decide (a3 = b3))) w := by
  rw [run_eql_struct, eq5]
  rfl
theorem bd5 (a b c d : ByteArray) (w : World) : (Instr.build 87 #[(0, .string a), (1, .string b), (2, .string c), (3, .string d)]).run Tryd.prog w = .ok (.agg #[.string a, .string b, .string c, .string d, .string ⟨#[]⟩]) w := by kernel_rfl
theorem bd25 (a b c d e f g h i j : ByteArray) (w : World) : (Instr.build 88 #[(0, .agg #[.string a, .string b, .string c, .string d, .string e]), (1, .agg #[.string f, .string g, .string h, .string i, .string j])]).run Tryd.prog w = .ok (.agg #[.string a, .string b, .string c, .string d, .string e, .string f, .string g, .string h, .string i, .string j]) w := by kernel_rfl
end Go.Proofs.YtjpdadibeocpfaaDoor
/-
  Whether two stanzas are the same, by the program. No condition.
-/
namespace Go.Proofs.YtjpdadibeocpfaaDoor
set_option linter.unusedVariables false
set_option linter.unusedSimpArgs false
open Go.RowKit Go.MapKept Go.Shelf
theorem same_kind {a b : Sz} (h : ¬ a.k = b.k) : sameZ a b = false := by unfold sameZ; rw [decide_eq_false h]; simp
set_option maxHeartbeats 2000000 in
theorem sameZ_any (x y : Sz) (v1 v2 : Value) (w : World) (h1 : TkS w v1 x.pl) (h2 : TkS w v2 y.pl) :
    Calls Tryd.prog 16 #[szV x v1, szV y v2] w fun e w' => e = .returned (.bool (sameZ x y)) ∧ Below w.heap.size w w' := by
  have hS : Hid (∀ W, Below w.heap.size w W → Calls Tryd.prog 12 #[v1, v2] W fun e w' => e = .returned (.bool (sameL x.pl y.pl)) ∧ Below W.heap.size W w') := Lib.hid fun W hb => same_any v1 v2 x.pl y.pl W (h1.below hb) (h2.below hb)
  have hb5 := bd5
  have hb25 := bd25
  obtain ⟨p1, c1, rfl, -⟩ := h1
  obtain ⟨p2, c2, rfl, -⟩ := h2
  generalize x.pl.length = n1 at *
  generalize y.pl.length = n2 at *
  unfold szV
  by_cases hk : x.k = y.k
  · have hz : Hid (sameZ x y = (decide (x.ty = y.ty) && decide (x.fr = y.fr) && decide (x.tt = y.tt) && decide (x.id = y.id) && sameL x.pl y.pl)) := Lib.hid (by unfold sameZ; rw [decide_eq_true hk]; simp only [Bool.true_and])
    have hs0 : Hid (Below w.heap.size w ((w.alloc (.cells #[.int .u8 x.k, .string ⟨x.ty.toArray⟩, .string ⟨x.fr.toArray⟩, .string ⟨x.tt.toArray⟩, .string ⟨x.id.toArray⟩, .slice p1 n1 c1] 45)).alloc (.cells #[.int .u8 y.k, .string ⟨y.ty.toArray⟩, .string ⟨y.fr.toArray⟩, .string ⟨y.tt.toArray⟩, .string ⟨y.id.toArray⟩, .slice p2 n2 c2] 45))) := Lib.hid (belowA (below1 w _) _)
    obtain ⟨k1, a1, b1, d1, e1, l1⟩ := x
    obtain ⟨k2, a2, b2, d2, e2, l2⟩ := y
    simp only at hk hS hz hs0 ⊢
    subst hk
    by_cases hE : a1 = a2 ∧ b1 = b2 ∧ d1 = d2 ∧ e1 = e2
    · obtain ⟨rfl, rfl, rfl, rfl⟩ := hE
      have he5 := eq5b a1 b1 d1 e1 a1 b1 d1 e1
      simp only [decide_true, Bool.and_true] at he5
      simp only [decide_true, Bool.true_and] at hz
      replace hz : Hid _ := Lib.hid hz
      go_enter Tryd.func16, Tryd.ntmps16
      go_wp2_with (go_at_call 12; refine (hS.out _ (belowA hs0.out _)).mono ?_; rintro e w1 ⟨rfl, hb⟩; replace hb := Lib.hid hb)
      go_ret
      exact ⟨ret_bool hz.out.out.symm, belowT (belowA hs0.out _) hb.out⟩
    · have hd : (decide (a1 = a2) && decide (b1 = b2) && decide (d1 = d2) && decide (e1 = e2)) = false := by
        by_cases h1 : a1 = a2
        · by_cases h2 : b1 = b2
          · by_cases h3 : d1 = d2
            · by_cases h4 : e1 = e2
              · exact absurd ⟨h1, h2, h3, h4⟩ hE
              · simp [h4]
            · simp [h3]
          · simp [h2]
        · simp [h1]
      have he5 := eq5b a1 b1 d1 e1 a2 b2 d2 e2
      rw [hd] at he5
      have hz0 : Hid (sameZ ⟨k1, a1, b1, d1, e1, l1⟩ ⟨k1, a2, b2, d2, e2, l2⟩ = false) := Lib.hid (by rw [hz.out, hd]; rfl)
      clear hz hd hE
      go_enter Tryd.func16, Tryd.ntmps16
      go_wp2_with fail
      go_ret
      exact ⟨ret_bool hz0.out.symm, belowA hs0.out _⟩
  · have hz : Hid (sameZ x y = false) := Lib.hid (same_kind hk)
    have hs0 : Hid (Below w.heap.size w ((w.alloc (.cells #[.int .u8 x.k, .string ⟨x.ty.toArray⟩, .string ⟨x.fr.toArray⟩, .string ⟨x.tt.toArray⟩, .string ⟨x.id.toArray⟩, .slice p1 n1 c1] 45)).alloc (.cells #[.int .u8 y.k, .string ⟨y.ty.toArray⟩, .string ⟨y.fr.toArray⟩, .string ⟨y.tt.toArray⟩, .string ⟨y.id.toArray⟩, .slice p2 n2 c2] 45))) := Lib.hid (belowA (below1 w _) _)
    obtain ⟨k1, a1, b1, d1, e1, l1⟩ := x
    obtain ⟨k2, a2, b2, d2, e2, l2⟩ := y
    simp only at hk hS hz hs0 ⊢
    have hk' : ((k1 : Int) == (k2 : Int)) = false := by rw [beq_eq_false_iff_ne]; omega
    have hk2 : ¬ (k1 : Int) = (k2 : Int) := by omega
    go_enter Tryd.func16, Tryd.ntmps16
    go_wp2_with fail
    all_goals go_ret
    all_goals exact ⟨ret_bool hz.out.symm, belowA hs0.out _⟩
end Go.Proofs.YtjpdadibeocpfaaDoor
