/-
  Edges without one, by the program (Remove). Condition: at most 1000 edges.
-/
import Derived.Test.YtgodmppmiamhaaaCoAdd
namespace Go.Proofs.Ytgodmppmiamhaaa
set_option linter.unusedVariables false
set_option linter.unusedSimpArgs false
open Go.RowKit Go.MapKept Go.Shelf
set_option maxHeartbeats 2000000 in
theorem remove_any (v : Value) (E : Ats) (c : Txt) (w : World) (hA : AtS w v E) (hl : E.length ≤ 1000) :
    Calls Try.prog 25 #[v, .string ⟨c.toArray⟩] w fun e w' => PairA w' e (delE E c) ∧ Below w.heap.size w w' := by
  have hR := Lib.hid (coRight_any _ E w hA hl)
  by_cases hr : rightE E = true
  · have hs := (right_parts hr).2.2.1
    have hC : Hid (∀ W1, Below w.heap.size w W1 → Calls Try.prog 31 #[v] W1 fun e w' => ∃ sv', e = .returned sv' ∧ w'.ownsRow W1.heap.size 58 2 sv' E.length (atCells E) ∧ Below W1.heap.size W1 w') := Lib.hid fun W1 hb => cloneE_any v E W1 (hA.below hb) (by omega)
    have hD : Hid (∀ (sv : Value) (base i : Nat) (W1 : World), i < E.length → W1.ownsRow base 58 2 sv E.length (atCells E) → Calls Try.prog 44 #[sv, .int .i64 i, .int .i64 ((i : Int) + 1)] W1 fun e w' => ∃ sv', e = .returned sv' ∧ AtS w' sv' (E.eraseIdx i) ∧ Below base W1 w') := Lib.hid fun sv base i W1 h1 h2 => delete_any sv base i E W1 hl h1 h2
    have hfa := fun W1 hb => find_any v E c W1 (hA.below hb) hl
    obtain ⟨vp, vc, rfl⟩ : ∃ a c, v = .slice a E.length c := by obtain ⟨a, c, h, -⟩ := hA; exact ⟨a, c, h⟩
    rw [hr] at hR
    by_cases hpar : parE E c = none
    · have ha : Hid (delE E c = ([], 10)) := Lib.hid (by unfold delE; rw [if_neg (by simp [hr]), if_pos hpar])
      have hF : Hid (∀ W1, Below w.heap.size w W1 → Calls Try.prog 32 #[.slice vp E.length vc, .string ⟨c.toArray⟩] W1 fun e w' => ∃ i : Nat, e = .returned (.tuple #[.int .i64 i, .bool false]) ∧ Below W1.heap.size W1 w') := Lib.hid fun W1 hb => (hfa W1 hb).mono (by
        rintro e w' ⟨i, rfl, h1, h2, h3⟩
        obtain ⟨p1, p2⟩ := pos_all hs (h2 hs)
        cases hh : hitE E c i with
        | false => exact ⟨i, rfl, h3⟩
        | true => obtain ⟨_, -, h4, -⟩ := p1 hh; rw [hpar] at h4; cases h4)
      clear hA hfa hpar hs
      go_enter Try.func25, Try.ntmps25
      go_wp2_with (first
        | (go_at_call 11; refine hR.out.mono ?_; rintro e w1 ⟨rfl, hb1⟩; replace hb1 := Lib.hid hb1)
        | (go_at_call 32; refine (hF.out _ hb1.out).mono ?_; rintro e w2 ⟨i, rfl, hb2⟩; replace hb2 := Lib.hid (belowT hb1.out hb2)))
      go_ret2
      rw [ha.out]
      exact ⟨⟨_, rfl, sN _⟩, hb2.out⟩
    · have ha : Hid (delE E c = (remE E c, 0)) := Lib.hid (by unfold delE; rw [if_neg (by simp [hr]), if_neg hpar])
      have hF : Hid (∀ W1, Below w.heap.size w W1 → Calls Try.prog 32 #[.slice vp E.length vc, .string ⟨c.toArray⟩] W1 fun e w' => ∃ i : Nat, e = .returned (.tuple #[.int .i64 i, .bool true]) ∧ i < E.length ∧ Hid (remE E c = E.eraseIdx i) ∧ Below W1.heap.size W1 w') := Lib.hid fun W1 hb => (hfa W1 hb).mono (by
        rintro e w' ⟨i, rfl, h1, h2, h3⟩
        obtain ⟨p1, p2⟩ := pos_all hs (h2 hs)
        cases hh : hitE E c i with
        | false => exact absurd (p2 hh).1 hpar
        | true => obtain ⟨h5, -, -, -, h6⟩ := p1 hh; exact ⟨i, rfl, h5, Lib.hid h6, h3⟩)
      clear hA hfa hpar hs
      obtain ⟨N, hN⟩ : ∃ N, E.length = N := ⟨_, rfl⟩
      rw [hN] at hR hC hF hl hD ⊢
      replace hN := Lib.hid hN
      go_enter Try.func25, Try.ntmps25
      go_wp2_with (first
        | (go_at_call 11; refine hR.out.mono ?_; rintro e w1 ⟨rfl, hb1⟩; replace hb1 := Lib.hid hb1)
        | (go_at_call 32; refine (hF.out _ hb1.out).mono ?_; rintro e w2 ⟨i, rfl, hi, hrm, hb2⟩; have hw1 : IntKind.i64.wrap ((i : Int) + 1) = (i : Int) + 1 := wrap_small _ (by omega) (by omega); replace hb2 := Lib.hid (belowT hb1.out hb2))
        | (go_at_call 31; refine (hC.out _ hb2.out).mono ?_
           rintro e w3 ⟨sv', rfl, hO3, hb3⟩
           obtain ⟨oa, oc, rfl⟩ := owns_shp hO3
           replace hO3 := owns_down hO3 hb2.out.size
           replace hb3 := Lib.hid (belowT hb2.out hb3)
           replace hO3 := Lib.hid hO3)
        | (go_at_call 44; refine (hD.out _ w.heap.size i _ hi hO3.out).mono ?_
           rintro e w4 ⟨sv4, rfl, hA4, hb4⟩
           obtain ⟨oa4, on4, oc4, rfl⟩ : ∃ a n c', sv4 = .slice a n c' := (by obtain ⟨a, c, h, -⟩ := hA4; exact ⟨a, _, c, h⟩)
           rw [← hrm.out] at hA4
           replace hA4 := Lib.hid hA4
           replace hb4 := Lib.hid (hb3.out.trans hb4)))
      go_ret2
      rw [ha.out]
      exact ⟨⟨_, rfl, hA4.out⟩, hb4.out⟩
  · have hr' : rightE E = false := by simpa using hr
    have ha : Hid (delE E c = ([], 3)) := Lib.hid (by unfold delE; rw [if_pos hr'])
    obtain ⟨vp, vc, rfl⟩ : ∃ a c, v = .slice a E.length c := by obtain ⟨a, c, h, -⟩ := hA; exact ⟨a, c, h⟩
    rw [hr'] at hR
    clear hA
    go_enter Try.func25, Try.ntmps25
    go_wp2_with (go_at_call 11; refine hR.out.mono ?_; rintro e w1 ⟨rfl, hb1⟩; replace hb1 := Lib.hid hb1)
    go_ret2
    rw [ha.out]
    exact ⟨⟨_, rfl, sN _⟩, hb1.out⟩
end Go.Proofs.Ytgodmppmiamhaaa
