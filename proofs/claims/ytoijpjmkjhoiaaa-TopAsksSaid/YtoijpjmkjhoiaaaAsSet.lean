/-
  A first subscription put into a list (node.set), by the program. No condition.
-/
import Derived.Test.YtoijpjmkjhoiaaaAsIns
namespace Go.Proofs.Ytoijpjmkjhoiaaa
set_option linter.unusedVariables false
set_option linter.unusedSimpArgs false
open Go.RowKit Go.MapKept Go.Shelf
theorem owns_dox {w : World} {b1 b2 : Nat} {e : TypeId} {size : Nat} {v : Value} {n : Nat} {xs : List Value} (h : w.ownsRow b1 e size v n xs) (hb : b2 ≤ b1) : w.ownsRow b2 e size v n xs := by
  refine ⟨h.1, ?_⟩
  rcases h.2 with h2 | ⟨g, cap, cur, h1, h2, h3⟩
  · exact .inl h2
  · exact .inr ⟨g, cap, cur, h1, Nat.le_trans hb h2, h3⟩
theorem bs0Sub_any (s : Tx) (fv : Value) (w : World) : Calls Try.prog 41 #[.slice none 0 0, .string ⟨s.toArray⟩, fv] w fun e w' => e = .returned (.tuple #[.int .i64 0, .bool false]) ∧ w' = w := by
  go_enter Try.func41, Try.ntmps41
  go_wp2
  go_loopw [9, 10] (fun s9 s10 wr => s9 = .int .i64 0 ∧ s10 = .int .i64 0 ∧ Hid (wr = w)) (fun _ _ _ => 0)
  case atStart => exact ⟨rfl, rfl, Lib.hid rfl⟩
  case round =>
    obtain ⟨rfl, rfl, hw⟩ := hrel
    go_wp2
    go_ret2
    exact ⟨rfl, hw.out⟩
set_option maxRecDepth 100000 in
set_option maxHeartbeats 2000000 in
theorem setSub0_any (x : Tx × Bool × Int) (w : World) : Calls Try.prog 15 #[.slice none 0 0, .agg #[.string ⟨x.1.toArray⟩, .bool x.2.1, .int .i64 x.2.2], .func (.func 16) #[] #[]] w fun e w' => ∃ v', e = .returned v' ∧ w'.ownsRow w.heap.size 46 3 v' 1 (suC [x]) ∧ Below w.heap.size w w' := by
  have eg := enters_of (P := Try.prog) Try.func16 (by kernel_rfl) rfl
  obtain ⟨j, p, d⟩ := x
  simp only
  have hOf : Hid (∀ W, Calls Try.prog 16 #[.agg #[.string ⟨j.toArray⟩, .bool p, .int .i64 d]] W fun e w' => e = .returned (.string ⟨j.toArray⟩) ∧ Below W.heap.size W w') := Lib.hid fun W => subOf_any j p d W
  have hBs : Hid (∀ fv W, Calls Try.prog 41 #[.slice none 0 0, .string ⟨j.toArray⟩, fv] W fun e w' => e = .returned (.tuple #[.int .i64 0, .bool false]) ∧ w' = W) := Lib.hid fun fv W => bs0Sub_any j fv W
  have hIn : Hid (∀ W, Calls Try.prog 44 #[.slice none 0 0, .int .i64 0, .slice (some ⟨W.heap.size, 0, none⟩) 1 1] (W.alloc (.cells #[.string ⟨j.toArray⟩, .bool p, .int .i64 d] 46)) fun e w' => ∃ v', e = .returned v' ∧ w'.ownsRow W.heap.size 46 3 v' 1 (suC [(j, p, d)]) ∧ Below W.heap.size W w') := Lib.hid fun W => by
    refine (insSub_any W.heap.size (j, p, d) (W.alloc (.cells #[.string ⟨j.toArray⟩, .bool p, .int .i64 d] 46)) (bare_nd W _)).mono ?_
    rintro e w' ⟨v', rfl, h1, h2⟩
    exact ⟨v', rfl, owns_dox h1 (by simp), (below1 W _).trans (h2.mono (by simp))⟩
  have hB1 := Lib.hid (belowA (below1 w (.cells #[.string ⟨j.toArray⟩, .bool p, .int .i64 d] 46)) (.cells #[.func (.func 16) #[] #[]] 51))
  go_enter Try.func15, Try.ntmps15
  go_wp2_with (first
    | (go_at_call 44; refine (hIn.out _).mono ?_; rintro e w3 ⟨v3, rfl, hO3, hb3⟩; replace hO3 := Lib.hid hO3; replace hb3 := Lib.hid hb3)
    | (go_at_call 41; refine (hBs.out _ _).mono ?_; rintro e w2 ⟨rfl, rfl⟩)
    | (go_at_call 16; refine (hOf.out _).mono ?_; rintro e w1 ⟨rfl, hb1⟩; obtain ⟨lc, lf⟩ := bat hb1 w.heap.size (by simp only [World.size_alloc]; omega); have ll : w.heap.size < w1.heap.size := Nat.lt_of_lt_of_le (by simp only [World.size_alloc]; omega) hb1.size; replace hb1 := Lib.hid (belowT hB1.out hb1)))
  go_ret
  exact ⟨_, rfl, owns_dox hO3.out hb1.out.size, belowT hb1.out hb3.out⟩
end Go.Proofs.Ytoijpjmkjhoiaaa
