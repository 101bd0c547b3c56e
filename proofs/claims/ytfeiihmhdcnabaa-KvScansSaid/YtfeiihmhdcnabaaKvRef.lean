/-
  The reference's maps: New, at, without, Get, Len, Delete. Condition: the map's pairs are right (okE).
-/
import Derived.Test.YtfeiihmhdcnabaaKvCells
namespace Go.Proofs.Ytfeiihmhdcnabaa
set_option linter.unusedVariables false
set_option linter.unusedSimpArgs false
open Go.RowKit Go.MapKept
def AtOut (E : Ats) (c : Txt) (n : Int) : Prop := (parE E c = none ∧ n = -1) ∨ ∃ k, ∃ h : k < E.length, n = k ∧ (E[k]'h).1 = c ∧ parE E c = some (E[k]'h).2
def AtPost (E : Ats) (c : Txt) (w : World) (e : Ending) (w' : World) : Prop := ∃ n, e = .returned (.int .i64 n) ∧ AtOut E c n ∧ w = w'
theorem refNew_any (w : World) : Calls Try.prog 28 #[] w fun e w' => ∃ g, e = .returned (.pointer (some ⟨g, 0, none⟩)) ∧ w.heap.size ≤ g ∧ RfS w' g [] ∧ Below w.heap.size w w' := by
  go_enter Try.func28, Try.ntmps28
  go_wp2
  go_ret
  exact ⟨_, rfl, Nat.le_refl _, ⟨ok_nil, none, 0, al_newK _ _, at_nil _ 0 (by simp)⟩, below1 w _⟩
set_option maxHeartbeats 1000000 in
theorem at_any (g : Nat) (E : Ats) (c : Txt) (w : World) (h : RfS w g E) : Calls Try.prog 40 #[.pointer (some ⟨g, 0, none⟩), .string ⟨c.toArray⟩] w (AtPost E c w) := by
  obtain ⟨hok, ptr, cap, hg, hA⟩ := h
  have hl := hok.2.1
  obtain ⟨hcell, hfz, hgs⟩ := obj_cells hg
  replace hcell := hcell 0
  simp at hcell
  obtain ⟨N, hN⟩ : ∃ N, E.length = N := ⟨_, rfl⟩
  rw [hN] at hl hcell
  rw [hN] at hA
  obtain ⟨p', c', he, -, -, hat⟩ := hA
  obtain ⟨rfl, -, rfl⟩ := Value.slice.inj he
  clear hg hok he hfz
  replace hN := Lib.hid hN
  replace hat := Lib.hid hat
  go_enter Try.func40, Try.ntmps40
  go_wp2
  go_loop [5] (fun s5 => ∃ k : Nat, k ≤ N ∧ s5 = .int .i64 k ∧ Hid (∀ i (h : i < E.length), i < k → (E[i]'h).1 ≠ c)) (fun s5 => N - (intOf s5).toNat)
  case atStart => exact ⟨0, Nat.zero_le _, rfl, Lib.hid (fun i _ hi => absurd hi (Nat.not_lt_zero _))⟩
  case round =>
    obtain ⟨k, hk, rfl, hno⟩ := hrel
    by_cases hlt : k < N
    · have hk3 : k < E.length := by have := hN.out; omega
      obtain ⟨b, o, rfl, hb, hcc⟩ := hat.out (by omega)
      obtain ⟨d0, d1⟩ := hcc k hk3
      clear hcc
      have hph := par_hit (c := c) hk3 hno.out
      generalize hE : E[k] = x at d0 d1 hph
      obtain ⟨ch, pa⟩ := x
      simp only at d0 d1 hph
      replace hE := Lib.hid hE
      have hki : (k : Int) < (N : Int) := by omega
      have hk0 : (0 : Int) ≤ (k : Int) := by omega
      by_cases hx : ch = c
      · have hr := Lib.hid (hph hx)
        clear hph
        subst hx
        go_wp2
        go_ret
        exact ⟨_, rfl, .inr ⟨k, hk3, rfl, by rw [hE.out], by rw [hE.out]; exact hr.out⟩, rfl⟩
      · have hxb : (ch == c) = false := by simpa using hx
        replace hph := Lib.hid hph
        replace hx := Lib.hid hx
        go_wp2
        go_round
        case rel =>
          refine ⟨k + 1, by omega, by simp, Lib.hid (fun i h hi => ?_)⟩
          rcases Nat.lt_or_ge i k with h' | h'
          · exact hno.out i h h'
          · obtain rfl : i = k := by omega
            rw [hE.out]; exact hx.out
        case measure => simp [intOf]; omega
    · have hr := Lib.hid (par_no (c := c) (fun i hi => hno.out i hi (by have := hN.out; omega)))
      have hki : ¬ (k : Int) < (N : Int) := by omega
      go_wp2
      go_ret
      exact ⟨_, rfl, .inl ⟨hr.out, rfl⟩, rfl⟩
theorem at_none {g : Nat} {E : Ats} {c : Txt} {w : World} (h : RfS w g E) (hp : parE E c = none) : Calls Try.prog 40 #[.pointer (some ⟨g, 0, none⟩), .string ⟨c.toArray⟩] w fun e w' => e = .returned (.int .i64 (-1)) ∧ w = w' :=
  (at_any g E c w h).mono fun e w' ⟨n, he, ho, hw⟩ => by
    rcases ho with ⟨-, rfl⟩ | ⟨k, hk, -, -, h2⟩
    · exact ⟨he, hw⟩
    · rw [hp] at h2; cases h2
theorem at_some {g : Nat} {E : Ats} {c q : Txt} {w : World} (h : RfS w g E) (hp : parE E c = some q) : Calls Try.prog 40 #[.pointer (some ⟨g, 0, none⟩), .string ⟨c.toArray⟩] w fun e w' => ∃ k, ∃ hk : k < E.length, e = .returned (.int .i64 (k : Nat)) ∧ Hid ((E[k]'hk).2 = q) ∧ w = w' :=
  (at_any g E c w h).mono fun e w' ⟨n, he, ho, hw⟩ => by
    rcases ho with ⟨h1, -⟩ | ⟨k, hk, rfl, -, h2⟩
    · rw [hp] at h1; cases h1
    · rw [hp] at h2
      exact ⟨k, hk, he, Lib.hid (Option.some.inj h2).symm, hw⟩
theorem refLen_any (g : Nat) (E : Ats) (w : World) (h : RfS w g E) : Calls Try.prog 30 #[.pointer (some ⟨g, 0, none⟩)] w fun e w' => e = .returned (.int .i64 E.length) ∧ w = w' := by
  obtain ⟨hok, ptr, cap, hg, hA⟩ := h
  obtain ⟨hcell, hfz, hgs⟩ := obj_cells hg
  replace hcell := hcell 0
  simp at hcell
  clear hg hok hA hfz
  go_enter Try.func30, Try.ntmps30
  go_wp2
  go_ret
  exact ⟨rfl, rfl⟩
set_option maxHeartbeats 1000000 in
theorem refGet_any (g : Nat) (E : Ats) (c : Txt) (w : World) (h : RfS w g E) :
    Calls Try.prog 29 #[.pointer (some ⟨g, 0, none⟩), .string ⟨c.toArray⟩] w fun e w' => e = .returned (.tuple #[.string ⟨((parE E c).getD []).toArray⟩, .bool (parE E c).isSome]) ∧ w = w' := by
  have hself := h
  cases hp : parE E c with
  | none =>
    have hat := Lib.hid (at_none hself hp)
    clear h hself
    replace hp := Lib.hid hp
    go_enter Try.func29, Try.ntmps29
    go_wp2_with (go_at_call 40; refine hat.out.mono ?_; rintro e w1 ⟨rfl, rfl⟩)
    go_ret2
    exact ⟨rfl, rfl⟩
  | some q =>
    have hat := Lib.hid (at_some hself hp)
    obtain ⟨hok, ptr, cap, hg, hA⟩ := h
    have hl := hok.2.1
    obtain ⟨hcell, hfz, hgs⟩ := obj_cells hg
    replace hcell := hcell 0
    simp at hcell
    obtain ⟨N, hN⟩ : ∃ N, E.length = N := ⟨_, rfl⟩
    rw [hN] at hl hcell
    rw [hN] at hA
    obtain ⟨p', c', he, -, -, hA⟩ := hA
    obtain ⟨rfl, -, rfl⟩ := Value.slice.inj he
    clear hg hok he hfz hself
    replace hN := Lib.hid hN
    replace hp := Lib.hid hp
    replace hA := Lib.hid hA
    go_enter Try.func29, Try.ntmps29
    go_wp2_with (go_at_call 40; refine hat.out.mono ?_; rintro e w1 ⟨k, hk3, rfl, hq, rfl⟩
                 obtain ⟨b, o, rfl, hb, hcc⟩ := hA.out (by have := hN.out; omega)
                 have d1 := (hcc k hk3).2
                 rw [hq.out] at d1
                 clear hcc
                 have hki : (k : Int) < (N : Int) := by have := hN.out; omega
                 have hk0 : (0 : Int) ≤ (k : Int) := by omega
                 have hk1 : ¬ (k : Int) < 0 := by omega)
    go_ret2
    exact ⟨rfl, rfl⟩
end Go.Proofs.Ytfeiihmhdcnabaa
