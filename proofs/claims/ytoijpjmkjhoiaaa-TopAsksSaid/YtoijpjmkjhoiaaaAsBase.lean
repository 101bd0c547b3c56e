/-
  A condition handed back (node.refused), and whether somebody is an owner (node.owner), by the program. Condition: what node.Right and node.Role say is told ahead.
-/
import Derived.Test.YtoijpjmkjhoiaaaFnRole
namespace Go.Proofs.Ytoijpjmkjhoiaaa
set_option linter.unusedVariables false
set_option linter.unusedSimpArgs false
open Go.RowKit Go.MapKept Go.Shelf
def zeroNd : Value := .agg #[.string ⟨#[]⟩, .bool false, .int .u8 0, .int .i64 0, .slice none 0 0, .slice none 0 0, .slice none 0 0, .string ⟨#[]⟩]
theorem refused_any (c : Int) (w : World) : Calls Try.prog 11 #[.int .i64 c] w fun e w' => e = .returned (.tuple #[zeroNd, .int .i64 c]) ∧ Below w.heap.size w w' := by
  go_enter Try.func11, Try.ntmps11
  go_wp2
  refine bodyPost_ret (v := .tuple #[zeroNd, .int .i64 c]) (by simp [zeroNd, results, Try.results11, go_sem]) rfl ⟨rfl, below1 _ _⟩
set_option maxHeartbeats 2000000 in
theorem owner_any (n : Nd) (afp sbp itp : Option Addr) (an afc sn sbc tn itc : Nat) (s : Tx) (R : Nat) (w : World)
    (hRt : ∀ W, Below w.heap.size w W → Calls Try.prog 9 #[.agg (ndC n (.slice afp an afc) (.slice sbp sn sbc) (.slice itp tn itc))] W fun e w' => e = .returned (.bool true) ∧ Below W.heap.size W w')
    (hRo : ∀ W, Below w.heap.size w W → Calls Try.prog 12 #[.agg (ndC n (.slice afp an afc) (.slice sbp sn sbc) (.slice itp tn itc)), .string ⟨s.toArray⟩] W fun e w' => e = .returned (.int .u8 R) ∧ Below W.heap.size W w') :
    Calls Try.prog 17 #[.agg (ndC n (.slice afp an afc) (.slice sbp sn sbc) (.slice itp tn itc)), .string ⟨s.toArray⟩] w fun e w' => e = .returned (.int .i64 (if R = 5 then 0 else 3)) ∧ Below w.heap.size w w' := by
  obtain ⟨nm, co, ac, mx, af, sb, pa⟩ := n
  unfold ndC at hRt hRo ⊢
  simp only at hRt hRo ⊢
  have hB1 := Lib.hid (below1 w (.cells #[.string ⟨nm.toArray⟩, .bool co, .int .u8 ac, .int .i64 mx, .slice afp an afc, .slice sbp sn sbc, .slice itp tn itc, .string ⟨pa.toArray⟩] 30))
  replace hRt := Lib.hid hRt
  replace hRo := Lib.hid hRo
  by_cases h5 : R = 5
  · have e5 : ((R : Int) != 5) = false := by rw [h5]; rfl
    rw [if_pos h5]
    clear h5
    go_enter Try.func17, Try.ntmps17
    go_wp2_with (first
      | (go_at_call 12; have m0 := hb1; refine (hRo.out _ hb1.out).mono ?_; rintro e w2 ⟨rfl, hb2⟩; replace hb2 := Lib.hid (belowT hb1.out hb2))
      | (go_at_call 9; refine (hRt.out _ hB1.out).mono ?_; rintro e w1 ⟨rfl, hb1⟩; obtain ⟨lc1, lf1⟩ := bat hb1 w.heap.size (by simp); have ll1 : w.heap.size < w1.heap.size := (Nat.lt_of_lt_of_le (by simp) hb1.size); replace hb1 := Lib.hid (belowT hB1.out hb1)))
    go_ret
    exact ⟨rfl, hb2.out⟩
  · have e5 : ((R : Int) != 5) = true := by simpa using fun e : (R : Int) = 5 => h5 (by omega)
    rw [if_neg h5]
    clear h5
    go_enter Try.func17, Try.ntmps17
    go_wp2_with (first
      | (go_at_call 12; have m0 := hb1; refine (hRo.out _ hb1.out).mono ?_; rintro e w2 ⟨rfl, hb2⟩; replace hb2 := Lib.hid (belowT hb1.out hb2))
      | (go_at_call 9; refine (hRt.out _ hB1.out).mono ?_; rintro e w1 ⟨rfl, hb1⟩; obtain ⟨lc1, lf1⟩ := bat hb1 w.heap.size (by simp); have ll1 : w.heap.size < w1.heap.size := (Nat.lt_of_lt_of_le (by simp) hb1.size); replace hb1 := Lib.hid (belowT hB1.out hb1)))
    go_ret
    exact ⟨rfl, hb2.out⟩
end Go.Proofs.Ytoijpjmkjhoiaaa
