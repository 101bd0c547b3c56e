/-
  A node's collection (Parent), by the program. Condition: at most 1000 edges.
-/
import Derived.Test.YtgodmppmiamhaaaCoRight
import Derived.Deep.DeepCutAuto
namespace Go.Proofs.Ytgodmppmiamhaaa
set_option linter.unusedVariables false
set_option linter.unusedSimpArgs false
open Go.RowKit Go.MapKept Go.Shelf
def parR (E : Ats) (c : Txt) : Option Txt := if rightE E then parE E c else none
set_option maxHeartbeats 1000000 in
theorem coParent_any (v : Value) (E : Ats) (c : Txt) (w : World) (hA : AtS w v E) (hl : E.length ≤ 1000) :
    Calls Try.prog 12 #[v, .string ⟨c.toArray⟩] w fun e w' => e = .returned (.tuple #[.string ⟨((parR E c).getD []).toArray⟩, .bool (parR E c).isSome]) ∧ Below w.heap.size w w' := by
  obtain ⟨vp, vc, rfl⟩ : ∃ a c, v = .slice a E.length c := by obtain ⟨a, c, h, -⟩ := hA; exact ⟨a, c, h⟩
  obtain ⟨N, hN⟩ : ∃ N, E.length = N := ⟨_, rfl⟩
  have hRt : Hid (∀ W1, Below w.heap.size w W1 → Calls Try.prog 11 #[.slice vp N vc] W1 fun e w' => e = .returned (.bool (rightE E)) ∧ Below W1.heap.size W1 w') := Lib.hid fun W1 hb => by
    rw [← hN]
    exact coRight_any _ E W1 (hA.below hb) hl
  by_cases hr : rightE E = true
  · have hs := (right_parts hr).2.2.1
    obtain ⟨p1, p2⟩ := (show ∀ i, PosE E c i → _ from fun i hi => pos_all hs hi) |> fun h => (⟨fun i hi => (h i hi).1, fun i hi => (h i hi).2⟩ : (∀ i, PosE E c i → _) ∧ (∀ i, PosE E c i → _))
    rw [hr] at hRt
    have hfd := find_any _ E c w hA hl
    cases hp : parE E c with
    | none =>
      have hpr : Hid (parR E c = none) := Lib.hid (by simp [parR, hr, hp])
      replace hfd := Lib.hid (hfd.mono (R' := fun e w' => ∃ i : Nat, e = .returned (.tuple #[.int .i64 i, .bool false]) ∧ Below w.heap.size w w') (by
        rintro e w' ⟨i, rfl, h1, h2, h3⟩
        cases hh : hitE E c i with
        | false => exact ⟨i, rfl, h3⟩
        | true => obtain ⟨_, -, h4, -⟩ := p1 i (h2 hs) hh; rw [hp] at h4; cases h4))
      rw [hN] at hfd ⊢
      clear p1 p2
      go_enter Try.func12, Try.ntmps12
      go_wp2_with (go_at_call 32; refine hfd.out.mono ?_; rintro e w1 ⟨i, rfl, hb1⟩; replace hb1 := Lib.hid hb1)
      go_ret2
      rw [hpr.out]
      exact ⟨rfl, hb1.out⟩
    | some p =>
      have hpr : Hid (parR E c = some p) := Lib.hid (by simp [parR, hr, hp])
      replace hfd := Lib.hid (hfd.mono (R' := fun e w' => ∃ i : Nat, e = .returned (.tuple #[.int .i64 i, .bool true]) ∧ (∃ x, E[i]? = some x ∧ x.2 = p) ∧ Below w.heap.size w w') (by
        rintro e w' ⟨i, rfl, h1, h2, h3⟩
        cases hh : hitE E c i with
        | false => have := (p2 i (h2 hs) hh).1; rw [hp] at this; cases this
        | true => obtain ⟨h5, -, h4, -⟩ := p1 i (h2 hs) hh; rw [hp] at h4; injection h4 with h4; exact ⟨i, rfl, ⟨_, List.getElem?_eq_getElem h5, h4.symm⟩, h3⟩))
      obtain ⟨p', c', he', -, -, hat⟩ := hA
      injection he' with e1 e2 e3
      subst e1 e3
      rw [hN] at hfd ⊢
      replace hat := Lib.hid hat
      replace hN := Lib.hid hN
      clear p1 p2
      go_enter Try.func12, Try.ntmps12
      go_wp2_with (first
        | (go_at_call 32; refine hfd.out.mono ?_; rintro e w1 ⟨i, rfl, ⟨x, hxi, hpi⟩, hb1⟩; obtain ⟨hi, hix⟩ := List.getElem?_eq_some_iff.1 hxi; rw [← hix] at hpi; clear hix hxi; replace hpi := Lib.hid hpi; replace hb1 := Lib.hid hb1)
        | (go_at_call 11; refine (hRt.out _ hb1.out).mono ?_; rintro e w2 ⟨rfl, hb2⟩
           obtain ⟨b, o, rfl, hb, hcc⟩ := hat.out (by have := hN.out; omega)
           have hB2 := belowT hb1.out hb2
           have e1 := ((bat hB2 b hb).1 (o + i * 2 + 1)).trans (hcc i hi).2
           rw [hpi.out] at e1
           have hbw : b < w2.heap.size := Nat.lt_of_lt_of_le hb hB2.size
           have hiI : (i : Int) < (N : Int) := by have := hN.out; omega
           have hi0 : (0 : Int) ≤ (i : Int) := by omega
           clear hcc
           replace hB2 := Lib.hid hB2
           replace hb2 := Lib.hid hb2))
      go_ret2
      rw [hpr.out]
      exact ⟨rfl, hB2.out⟩
  · have hr' : rightE E = false := by simpa using hr
    have hpr : Hid (parR E c = none) := Lib.hid (by simp [parR, hr'])
    rw [hr'] at hRt
    have hfd := Lib.hid ((find_any _ E c w hA hl).mono (R' := fun e w' => ∃ (i : Nat) (q : Bool), e = .returned (.tuple #[.int .i64 i, .bool q]) ∧ Below w.heap.size w w') (fun e w' ⟨i, h, _, _, h3⟩ => ⟨i, _, h, h3⟩))
    rw [hN] at hfd ⊢
    go_enter Try.func12, Try.ntmps12
    go_upto_region 2 with (go_at_call 32; refine hfd.out.mono ?_; rintro e w1 ⟨i, q, rfl, hb1⟩; replace hb1 := Lib.hid hb1)
    cases q with
    | false =>
      go_wp2
      go_ret2
      rw [hpr.out]
      exact ⟨rfl, hb1.out⟩
    | true =>
      go_wp2_with (go_at_call 11; refine (hRt.out _ hb1.out).mono ?_; rintro e w2 ⟨rfl, hb2⟩; replace hb2 := Lib.hid hb2)
      go_ret2
      rw [hpr.out]
      exact ⟨rfl, belowT hb1.out hb2.out⟩
end Go.Proofs.Ytgodmppmiamhaaa
