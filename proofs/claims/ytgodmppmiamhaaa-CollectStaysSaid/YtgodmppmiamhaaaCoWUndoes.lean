/-
  The walk of CollectUndoes.
-/
import Derived.Test.YtgodmppmiamhaaaCoRef8
namespace Go.Proofs.Ytgodmppmiamhaaa
set_option linter.unusedVariables false
set_option linter.unusedSimpArgs false
open Go.RowKit Go.MapKept Go.Shelf
theorem add_err {E : Ats} {c p : Txt} (h : (addE E c p).2 ≠ 0) : (addE E c p).1 = [] := by
  unfold addE at h ⊢
  split
  · rfl
  · split
    · rfl
    · split
      · rfl
      · rename_i h1 h2 h3
        rw [if_neg h1, if_neg h2, if_neg h3] at h
        exact absurd rfl h
theorem add_ok {E : Ats} {c p : Txt} (h : (addE E c p).2 = 0) : c ≠ [] ∧ p ≠ [] ∧ rightE E = true ∧ c ≠ p ∧ isUpE E c p = false ∧ ¬ (parE E c = none ∧ 64 ≤ E.length) ∧ (addE E c p).1 = insE c p E := by
  unfold addE at h ⊢
  by_cases h1 : c = [] ∨ p = [] ∨ rightE E = false
  · rw [if_pos h1] at h; cases h
  · by_cases h2 : c = p ∨ isUpE E c p = true
    · rw [if_neg h1, if_pos h2] at h; cases h
    · by_cases h3 : parE E c = none ∧ 64 ≤ E.length
      · rw [if_neg h1, if_neg h2, if_pos h3] at h; cases h
      · rw [if_neg h1, if_neg h2, if_neg h3]
        refine ⟨fun e => h1 (.inl e), fun e => h1 (.inr (.inl e)), ?_, fun e => h2 (.inl e), ?_, h3, rfl⟩
        · cases h : rightE E with
          | true => rfl
          | false => exact absurd (.inr (.inr h)) h1
        · cases h : isUpE E c p with
          | false => rfl
          | true => exact absurd (.inr h) h2
theorem add_right {E : Ats} {c p : Txt} (h : (addE E c p).2 = 0) : rightE (addE E c p).1 = true := by
  obtain ⟨h1, h2, h3, h4, h5, h6, h7⟩ := add_ok h
  rw [h7]
  exact right_ins h3 h1 h2 h4 h5 h6
theorem undoes {E : Ats} {c p : Txt} (h : (addE E c p).2 = 0) (hp : parR E c = none) : (addE E c p).1.length = E.length + 1 ∧ delE (addE E c p).1 c = (E, 0) := by
  have hr := add_right h
  obtain ⟨h1, h2, h3, h4, h5, h6, h7⟩ := add_ok h
  have hpn : parE E c = none := by rw [parR, if_pos h3] at hp; exact hp
  rw [h7] at hr ⊢
  refine ⟨by rw [ins_len c p (right_parts h3).2.2.1, if_pos hpn], ?_⟩
  unfold delE
  rw [if_neg (by simp [hr]), if_neg (by rw [par_ins]; simp), rem_ins, rem_none hpn]
theorem sameE_self (v1 v2 : Value) (F : Ats) (W : World) (h1 : AtS W v1 F) (h2 : AtS W v2 F) (hl : F.length ≤ 1000) : Calls Try.prog 27 #[v1, v2] W fun e w' => e = .returned (.bool true) ∧ Below W.heap.size W w' :=
  (sameE_any v1 v2 F F W h1 h2 hl).mono (fun e w' ⟨h, hb⟩ => ⟨by rw [h, decide_eq_true_iff.2 rfl], hb⟩)
set_option maxHeartbeats 1000000 in
theorem undoes_of (v : Value) (E F : Ats) (c p : Txt) (w : World) (hA : AtS w v E) (hF : F = E.take 66) :
    Calls Try.prog 8 #[v, .string ⟨c.toArray⟩, .string ⟨p.toArray⟩] w fun e w' => e = .returned (.bool true) ∧ Below w.heap.size w w' := by
  have hFl : F.length ≤ 66 := by rw [hF, List.length_take]; omega
  have hFew := few_any v E w hA
  rw [← hF] at hFew
  have hLive := Lib.hid live_any
  have hPar := fun (v : Value) W1 (h : AtS W1 v F) => coParent_any v F c W1 h (by omega)
  have hAdd := fun (v : Value) W1 (h : AtS W1 v F) => add_any v F c p W1 h (by omega)
  have hUn := undoes (E := F) (c := c) (p := p)
  have hEr := add_err (E := F) (c := c) (p := p)
  have hRem := fun (v : Value) (m : Ats) W1 (h : AtS W1 v m) (hm : m.length ≤ 1000) => remove_any v m c W1 h hm
  have hSame : ∀ (v1 v2 : Value) W1, AtS W1 v1 F → AtS W1 v2 F → Calls Try.prog 27 #[v1, v2] W1 fun e w' => e = .returned (.bool true) ∧ Below W1.heap.size W1 w' := fun v1 v2 W1 h1 h2 => sameE_self v1 v2 F W1 h1 h2 (by omega)
  obtain ⟨va, vn, vc, rfl⟩ : ∃ a n c, v = .slice a n c := by obtain ⟨a, c, h, -⟩ := hA; exact ⟨a, _, c, h⟩
  generalize addE F c p = r at hAdd hUn hEr
  obtain ⟨m, k⟩ := r
  simp only at hUn hEr
  clear hA hF
  replace hFew := Lib.hid hFew
  replace hAdd := Lib.hid hAdd
  replace hSame := Lib.hid hSame
  cases hq : parR F c with
  | some q =>
    rw [hq] at hPar
    replace hPar := Lib.hid hPar
    clear hUn hEr hRem
    go_enter Try.func8, Try.ntmps8
    go_wp2_with (first
      | (go_at_call 14; refine hFew.out.mono ?_; rintro e w1 ⟨sv, rfl, hA1, rfl⟩; obtain ⟨a1, c1, rfl⟩ : ∃ a c', sv = .slice a F.length c' := (by obtain ⟨a, c, h, -⟩ := hA1; exact ⟨a, c, h⟩); replace hA1 := Lib.hid hA1)
      | (go_at_call 12; refine (hPar.out _ _ hA1.out).mono ?_; rintro e w2 ⟨rfl, hb2⟩; replace hb2 := Lib.hid hb2)
      | (go_at_call 13; refine (hLive.out _).mono ?_; rintro e w3 ⟨rfl, hb3⟩; replace hb3 := Lib.hid (belowT hb2.out hb3)))
    go_ret
    exact ⟨rfl, hb3.out⟩
  | none =>
    rw [hq] at hPar
    replace hPar := Lib.hid hPar
    by_cases hk : k = 0
    · subst hk
      obtain ⟨hm, hd⟩ := hUn rfl hq
      have hR2 := fun (v : Value) W1 (h : AtS W1 v m) => hRem v m W1 h (by omega)
      rw [hd] at hR2
      replace hR2 := Lib.hid hR2
      replace hm := Lib.hid hm
      have hw1 : IntKind.i64.wrap ((F.length : Int) + 1) = (F.length : Int) + 1 := wrap_small _ (by omega) (by omega)
      replace hq := Lib.hid hq
      clear hUn hEr hRem hd
      go_enter Try.func8, Try.ntmps8
      go_wp2_with (first
        | (go_at_call 14; refine hFew.out.mono ?_; rintro e w1 ⟨sv, rfl, hA1, rfl⟩; obtain ⟨a1, c1, rfl⟩ : ∃ a c', sv = .slice a F.length c' := (by obtain ⟨a, c, h, -⟩ := hA1; exact ⟨a, c, h⟩); replace hA1 := Lib.hid hA1)
        | (go_at_call 12; refine (hPar.out _ _ hA1.out).mono ?_; rintro e w2 ⟨rfl, hb2⟩; replace hA1 := Lib.hid (hA1.out.below hb2); replace hb2 := Lib.hid hb2)
        | (go_at_call 10; refine (hAdd.out _ _ hA1.out).mono ?_; rintro e w3 ⟨⟨sv3, rfl, hA3⟩, hb3⟩; obtain ⟨a3, c3, rfl⟩ : ∃ a c', sv3 = .slice a (F.length + 1) c' := (by obtain ⟨a, c, h, -⟩ := hA3; exact ⟨a, c, by rw [← hm.out]; exact h⟩); replace hA1 := Lib.hid (hA1.out.below hb3); replace hA3 := Lib.hid hA3; replace hb3 := Lib.hid (belowT hb2.out hb3))
        | (go_at_call 25; refine (hR2.out _ _ hA3.out).mono ?_; rintro e w4 ⟨⟨sv4, rfl, hA4⟩, hb4⟩; obtain ⟨a4, c4, rfl⟩ : ∃ a c', sv4 = .slice a F.length c' := (by obtain ⟨a, c, h, -⟩ := hA4; exact ⟨a, c, h⟩); replace hA1 := Lib.hid (hA1.out.below hb4); replace hA4 := Lib.hid hA4; replace hb4 := Lib.hid (belowT hb3.out hb4))
        | (go_at_call 13; refine (hLive.out _).mono ?_; rintro e w5 ⟨rfl, hb5⟩; replace hA1 := Lib.hid (hA1.out.below hb5); replace hA4 := Lib.hid (hA4.out.below hb5); replace hb5 := Lib.hid (belowT hb4.out hb5))
        | (go_at_call 27; refine (hSame.out _ _ _ hA4.out hA1.out).mono ?_; rintro e w6 ⟨rfl, hb6⟩; replace hb6 := Lib.hid (belowT hb5.out hb6)))
      go_ret
      exact ⟨rfl, hb6.out⟩
    · have hm := hEr hk
      subst hm
      have hkb : (k == 0) = false := by simpa using hk
      replace hq := Lib.hid hq
      clear hUn hEr hRem
      go_enter Try.func8, Try.ntmps8
      go_wp2_with (first
        | (go_at_call 14; refine hFew.out.mono ?_; rintro e w1 ⟨sv, rfl, hA1, rfl⟩; obtain ⟨a1, c1, rfl⟩ : ∃ a c', sv = .slice a F.length c' := (by obtain ⟨a, c, h, -⟩ := hA1; exact ⟨a, c, h⟩); replace hA1 := Lib.hid hA1)
        | (go_at_call 12; refine (hPar.out _ _ hA1.out).mono ?_; rintro e w2 ⟨rfl, hb2⟩; replace hA1 := Lib.hid (hA1.out.below hb2); replace hb2 := Lib.hid hb2)
        | (go_at_call 10; refine (hAdd.out _ _ hA1.out).mono ?_; rintro e w3 ⟨⟨sv3, rfl, hA3⟩, hb3⟩; obtain ⟨a3, c3, rfl⟩ : ∃ a c', sv3 = .slice a 0 c' := (by obtain ⟨a, c, h, -⟩ := hA3; exact ⟨a, c, h⟩); replace hA3 := Lib.hid hA3; replace hb3 := Lib.hid (belowT hb2.out hb3))
        | (go_at_call 13; refine (hLive.out _).mono ?_; rintro e w5 ⟨rfl, hb5⟩; replace hb5 := Lib.hid (belowT hb3.out hb5)))
      go_ret
      exact ⟨rfl, hb5.out⟩
theorem collectUndoes_walk (v : Value) (E : Ats) (c p : Txt) (w : World) (hA : AtS w v E) :
    Calls Try.prog 8 #[v, .string ⟨c.toArray⟩, .string ⟨p.toArray⟩] w fun e w' => e = .returned (.bool true) ∧ Below w.heap.size w w' := undoes_of v E _ c p w hA rfl
end Go.Proofs.Ytgodmppmiamhaaa
