/-
  The walk of KvNone.
-/
import Derived.Test.YtfeiihmhdcnabaaKvSame
import Derived.Test.YtfeiihmhdcnabaaKvNilB
namespace Go.Proofs.Ytfeiihmhdcnabaa
set_option linter.unusedVariables false
set_option linter.unusedSimpArgs false
open Go.RowKit Go.MapKept
theorem nilSize_any (w : World) : Calls Try.prog 27 #[.pointer none] w fun e w' => e = .returned (.int .i64 0) ∧ Below w.heap.size w w' := nilSize_aux [] w rfl
theorem nilScan_any (p : Txt) (w : World) : Calls Try.prog 18 #[.pointer none, .string ⟨p.toArray⟩] w fun e w' => ∃ a c, e = .returned (.slice a 0 c) ∧ Below w.heap.size w w' :=
  (nilScan_aux [] p w rfl).mono fun e w' ⟨sv, h1, ⟨a, c, h2, _⟩, h3⟩ => ⟨a, c, by rw [h1, h2]; rfl, h3⟩
theorem nilBytes_any (w : World) : Calls Try.prog 23 #[.pointer none] w fun e w' => ∃ a c, e = .returned (.slice a 0 c) ∧ Below w.heap.size w w' :=
  (nilBytes_aux [] w rfl).mono fun e w' ⟨sv, h1, h2, h3⟩ => by
    obtain ⟨a, c, h4, -⟩ := BySl.of_own h2
    exact ⟨a, c, by rw [h1, h4]; rfl, h3⟩
theorem deed_go {w W W' : World} {B : Nat} {a b : Value} (c1 : W.cell? ⟨B, 1, none⟩ = some a) (c2 : W.cell? ⟨B, 2, none⟩ = some b) (hs : B < W.heap.size) (hb0 : Hid (Below w.heap.size w W)) (hb : Below W.heap.size W W') :
    W'.cell? ⟨B, 1, none⟩ = some a ∧ W'.cell? ⟨B, 2, none⟩ = some b ∧ B < W'.heap.size ∧ Hid (Below w.heap.size w W') :=
  ⟨(hb.cell (p := ⟨B, 1, none⟩) hs).trans c1, (hb.cell (p := ⟨B, 2, none⟩) hs).trans c2, Nat.lt_of_lt_of_le hs hb.size, Lib.hid (belowT hb0.out hb)⟩
theorem kvNone_walk (x : Dd) (w : World) : Calls Try.prog 9 #[.agg #[.int .i64 x.k, .string ⟨x.c.toArray⟩, .string ⟨x.v.toArray⟩]] w fun e w' => e = .returned (.bool true) ∧ Below w.heap.size w w' := by
  obtain ⟨k, c, v⟩ := x
  simp only
  have hx := al_newK w (.cells #[.int .i64 k, .string ⟨c.toArray⟩, .string ⟨v.toArray⟩] 53)
  have c1 : (w.alloc (.cells #[.int .i64 k, .string ⟨c.toArray⟩, .string ⟨v.toArray⟩] 53)).cell? ⟨w.heap.size, 1, none⟩ = some (.string ⟨c.toArray⟩) := (obj_cells hx).1 1
  have c2 : (w.alloc (.cells #[.int .i64 k, .string ⟨c.toArray⟩, .string ⟨v.toArray⟩] 53)).cell? ⟨w.heap.size, 2, none⟩ = some (.string ⟨v.toArray⟩) := (obj_cells hx).1 2
  have hs : w.heap.size < (w.alloc (.cells #[.int .i64 k, .string ⟨c.toArray⟩, .string ⟨v.toArray⟩] 53)).heap.size := by simp
  have hb0 := Lib.hid (below1 w (.cells #[.int .i64 k, .string ⟨c.toArray⟩, .string ⟨v.toArray⟩] 53))
  clear hx
  go_enter Try.func9, Try.ntmps9
  go_wp2_with (first
    | (have m0 := hb8; go_at_call 24; refine (nilFork_any _).mono ?_; rintro e w9 ⟨rfl, hbn⟩; obtain ⟨c1, c2, hs, hb9⟩ := deed_go c1 c2 hs hb8 hbn; clear hbn)
    | (have m0 := hb7; go_at_call 27; refine (nilSize_any _).mono ?_; rintro e w8 ⟨rfl, hbn⟩; obtain ⟨c1, c2, hs, hb8⟩ := deed_go c1 c2 hs hb7 hbn; clear hbn)
    | (have m0 := hb6; go_at_call 15; refine (nilLen_any _).mono ?_; rintro e w7 ⟨rfl, hbn⟩; obtain ⟨c1, c2, hs, hb7⟩ := deed_go c1 c2 hs hb6 hbn; clear hbn)
    | (have m0 := hb5; go_at_call 23; refine (nilBytes_any _).mono ?_; rintro e w6 ⟨ba, bc, rfl, hbn⟩; obtain ⟨c1, c2, hs, hb6⟩ := deed_go c1 c2 hs hb5 hbn; clear hbn)
    | (have m0 := hb4; go_at_call 18; refine (nilScan_any _ _).mono ?_; rintro e w5 ⟨sa, sc, rfl, hbn⟩; obtain ⟨c1, c2, hs, hb5⟩ := deed_go c1 c2 hs hb4 hbn; clear hbn)
    | (have m0 := hb3; go_at_call 20; refine (nilDelete_any _ _).mono ?_; rintro e w4 ⟨rfl, hbn⟩; obtain ⟨c1, c2, hs, hb4⟩ := deed_go c1 c2 hs hb3 hbn; clear hbn)
    | (have m0 := hb2; go_at_call 13; refine (nilPut_any _ _ _).mono ?_; rintro e w3 ⟨rfl, hbn⟩; obtain ⟨c1, c2, hs, hb3⟩ := deed_go c1 c2 hs hb2 hbn; clear hbn)
    | (have m0 := hb1; go_at_call 14; refine (live_kv _).mono ?_; rintro e w2 ⟨rfl, hbn⟩; obtain ⟨c1, c2, hs, hb2⟩ := deed_go c1 c2 hs hb1 hbn; clear hbn)
    | (have m0 := hb0; go_at_call 19; refine (nilGet_any _ _).mono ?_; rintro e w1 ⟨rfl, hbn⟩; obtain ⟨c1, c2, hs, hb1⟩ := deed_go c1 c2 hs hb0 hbn; clear hbn))
  go_ret
  exact ⟨rfl, hb9.out⟩
end Go.Proofs.Ytfeiihmhdcnabaa
