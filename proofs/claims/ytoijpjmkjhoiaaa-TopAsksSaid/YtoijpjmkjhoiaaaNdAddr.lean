/-
  node.Address and node.Body, walked. Condition: the text shorter than the reach.
-/
import Derived.Test.YtoijpjmkjhoiaaaNdAddrP
import Derived.Test.YtoijpjmkjhoiaaaJidWalks4
import Derived.Test.YtoijpjmkjhoiaaaJidWalks7
import Derived.Test.YtoijpjmkjhoiaaaFloat
import Derived.Laws.StructEq
namespace Go.Proofs.Ytoijpjmkjhoiaaa
set_option linter.unusedVariables false
set_option linter.unusedSimpArgs false
open Go.RowKit
theorem eqJ (a b c a' b' c' : List UInt8) (w : World) : (binOp .eql 70 (.agg #[.string ⟨a.toArray⟩, .string ⟨b.toArray⟩, .string ⟨c.toArray⟩]) (.agg #[.string ⟨a'.toArray⟩, .string ⟨b'.toArray⟩, .string ⟨c'.toArray⟩])).run Try.prog w = .ok (.bool (decide (a = a') && decide (b = b') && decide (c = c'))) w := by
  by_cases h0 : a = a'
  · by_cases h1 : b = b'
    · by_cases h2 : c = c'
      · subst h0 h1 h2; go_simp
      · subst h0 h1; go_simp
    · subst h0; go_simp
  · go_simp
theorem body_any (s : List UInt8) (w : World) (hs : s.length ≤ 140737488351232) :
    Calls Try.prog 28 #[.string ⟨s.toArray⟩] w fun e w' => e = .returned (.bool (fitsP s)) ∧ Below w.heap.size w w' := by
  by_cases h : s.length ≤ 512
  · have e1 : fitsP s = charsP s := by simp [fitsP, h]
    have hb : decide ((s.length : Int) ≤ 512) = true := by simp; omega
    rw [e1]
    go_enter Try.func28, Try.ntmps28
    go_wp2_with (go_at_call 56; refine (textChars_any s _ hs).mono ?_; rintro e w1 ⟨rfl, hb1⟩)
    go_ret
    exact ⟨rfl, hb1⟩
  · have e1 : fitsP s = false := by simp [fitsP, h]
    have hb : decide ((s.length : Int) ≤ 512) = false := by simp; omega
    rw [e1]
    go_enter Try.func28, Try.ntmps28
    go_wp2
    go_ret
    exact ⟨rfl, Below.refl _ _⟩
theorem bareN (l d r : List UInt8) (w : World) :
    Calls Try.prog 33 #[.agg #[.string ⟨l.toArray⟩, .string ⟨d.toArray⟩, .string ⟨r.toArray⟩]] w fun e w' => e = .returned (.agg #[.string ⟨l.toArray⟩, .string ⟨d.toArray⟩, .string ⟨#[]⟩]) ∧ Below w.heap.size w w' :=
  (bare_any l d r w).mono fun e w' ⟨h, o1, o2, n, h'⟩ => ⟨h, by rw [h']; exact belowN (belowA (below1 w _) _) _⟩
theorem normalN (l d r : List UInt8) (w : World) (h1 : l.length ≤ 140737488351232) (h2 : d.length ≤ 140737488351232) (h3 : r.length ≤ 140737488351232) :
    Calls Try.prog 32 #[.agg #[.string ⟨l.toArray⟩, .string ⟨d.toArray⟩, .string ⟨r.toArray⟩]] w fun e w' => e = .returned (.agg #[.string ⟨(lowL l).toArray⟩, .string ⟨(lowL d).toArray⟩, .string ⟨r.toArray⟩]) ∧ Below w.heap.size w w' :=
  (normal_any l d r w h1 h2 h3).mono fun e w' ⟨h, o1, o2, o3, o4, o5, n, h'⟩ => ⟨h, by rw [h']; exact belowN (belowA (belowA (belowA (belowA (below1 w _) _) _) _) _) _⟩
theorem keepJ3 {w W w' : World} {B : Nat} {x y z : Value} (h : W.cell? ⟨B, 0, none⟩ = some x ∧ W.cell? ⟨B, 1, none⟩ = some y ∧ W.cell? ⟨B, 2, none⟩ = some z ∧ Below w.heap.size w W ∧ B < W.heap.size) (hb : Below W.heap.size W w') : w'.cell? ⟨B, 0, none⟩ = some x ∧ w'.cell? ⟨B, 1, none⟩ = some y ∧ w'.cell? ⟨B, 2, none⟩ = some z ∧ Below w.heap.size w w' ∧ B < w'.heap.size := by
  obtain ⟨h1, h2, h3, h4, h5⟩ := h
  obtain ⟨hc, -⟩ := bat hb B h5
  exact ⟨(hc 0).trans h1, (hc 1).trans h2, (hc 2).trans h3, belowT h4 hb, Nat.lt_of_lt_of_le h5 hb.size⟩
set_option maxHeartbeats 4000000 in
theorem address_any (s : List UInt8) (w : World) (hs : s.length ≤ 140737488351232) :
    Calls Try.prog 10 #[.string ⟨s.toArray⟩] w fun e w' => e = .returned (.bool (addrP s)) ∧ Below w.heap.size w w' := by
  have hP := parse_any s w hs
  unfold parseV at hP
  unfold addrP
  cases hp : parseL s with
  | none =>
    rw [hp] at hP
    simp only at hP ⊢
    replace hP := Lib.hid hP
    go_enter Try.func10, Try.ntmps10
    go_wp2_with (go_at_call 31; refine hP.out.mono ?_; rintro e w1 ⟨rfl, hb⟩)
    refine wp_region_float (by kernel_rfl) (by kernel_rfl) (fun W => Below w.heap.size w W) (by first | exact ((hb.alloc hb.size _).drew) | exact (((hb.alloc hb.size _).setCell hb.size _).drew)) ?_
    simp only [List.toList_toArray]
    repeat (first
      | (apply Flo.skip; · rfl
         simp only [Act.put, List.setIfInBounds_toArray, List.set_cons_zero, List.set_cons_succ])
      | (apply Flo.val; · rfl
         · (intro W hSw; go_simp; with_reducible rfl)
         simp only [Act.put, List.setIfInBounds_toArray, List.set_cons_zero, List.set_cons_succ])
      | fail)
    intro W hSw
    go_wp2_with fail
    go_ret
    exact ⟨rfl, hSw⟩
  | some x =>
    obtain ⟨l, d, r⟩ := x
    rw [hp] at hP
    simp only at hP ⊢
    obtain ⟨-, -, -, -, -, b1, b2, b3⟩ := rightJ_parts (join_parse hp).1
    have hq := eqJ (lowL l) (lowL d) [] l d r
    rw [show decide ([] = r) = decide (r = []) by rw [decide_eq_decide]; exact eq_comm] at hq
    replace hP := Lib.hid hP
    replace hp := Lib.hid hp
    go_enter Try.func10, Try.ntmps10
    go_wp2_with (go_at_call 31; refine hP.out.mono ?_; rintro e w1 ⟨rfl, hb⟩)
    refine wp_region_float (by kernel_rfl) (by kernel_rfl) (fun W => W.cell? ⟨w1.heap.size, 0, none⟩ = some (.string ⟨l.toArray⟩) ∧ W.cell? ⟨w1.heap.size, 1, none⟩ = some (.string ⟨d.toArray⟩) ∧ W.cell? ⟨w1.heap.size, 2, none⟩ = some (.string ⟨r.toArray⟩) ∧ Below w.heap.size w W ∧ w1.heap.size < W.heap.size) ⟨by simp, by simp, by simp, by first | exact ((hb.alloc hb.size _).drew) | skip, by simp⟩ ?_
    simp only [List.toList_toArray]
    repeat (first
      | (apply Flo.skip; · rfl
         simp only [Act.put, List.setIfInBounds_toArray, List.set_cons_zero, List.set_cons_succ])
      | (apply Flo.val; · rfl
         · (intro W hSw; (try dsimp only at hSw); obtain ⟨h1, h2, h3, h4, h5⟩ := hSw; go_simp; with_reducible rfl)
         simp only [Act.put, List.setIfInBounds_toArray, List.set_cons_zero, List.set_cons_succ])
      | (apply Flo.call; · rfl
         · (intro W hSw; go_simp; first | exact ⟨rfl, rfl⟩ | with_reducible rfl)
         · (intro W hSw
            first
             | (go_at_call 33; exact (bareN _ _ _ _).mono (fun e w'' h => ⟨h.1, keepJ3 hSw h.2⟩))
             | (go_at_call 32; exact (normalN _ _ _ _ (by omega) (by omega) (by first | omega | simp)).mono (fun e w'' h => ⟨h.1, keepJ3 hSw h.2⟩)))
         simp only [Act.put, List.setIfInBounds_toArray, List.set_cons_zero, List.set_cons_succ])
      | fail)
    intro W hSw
    go_wp2_with fail
    go_ret
    exact ⟨rfl, hSw.2.2.2.1⟩
end Go.Proofs.Ytoijpjmkjhoiaaa
