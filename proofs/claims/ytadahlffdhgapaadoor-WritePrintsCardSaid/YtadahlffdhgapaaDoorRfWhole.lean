/-
  Whether tokens are one element, by the reference (heliographref04.Whole). Conditions: no text beyond the reach; the library's tables are as they were laid.
-/
import Derived.Test.YtadahlffdhgapaaDoorRfRight
import Derived.Test.YtadahlffdhgapaaDoorWrWhole2
namespace Go.Proofs.YtadahlffdhgapaaDoor
set_option linter.unusedVariables false
set_option linter.unusedSimpArgs false
open Go.RowKit Go.MapKept
theorem step_len {p : Int} {op op' : List (List UInt8)} {tk : Tk} (h : stepT p op tk = some op') : (tk.k = 1 ∧ op'.length = op.length + 1) ∨ (tk.k = 2 ∧ op'.length + 1 = op.length) ∨ (tk.k = 3 ∧ op'.length = op.length ∧ tk.k ≠ 1 ∧ tk.k ≠ 2) := by
  unfold stepT at h
  split at h
  · cases h
  split at h
  · rename_i h1; injection h with h; subst h; left; exact ⟨h1.1, by simp⟩
  split at h
  · rename_i h1; injection h with h; subst h; right; left; exact ⟨h1.1, by simp; omega⟩
  split at h
  · rename_i h1; injection h with h; subst h; right; right; exact ⟨h1.1, rfl, by omega, by omega⟩
  · cases h
theorem whole_no {l : List Tk} {j : Nat} (hj : j < l.length - 1) (h : opsTo l (j + 1) = some []) : wholeL l = false := by
  unfold wholeL
  have : ¬ ∀ j, j < l.length - 1 → opsTo l (j + 1) ≠ some [] := fun hh => hh j hj h
  simp [this]
set_option maxRecDepth 100000 in
set_option maxHeartbeats 4000000 in
theorem refWhole_any (tv : Value) (l : List Tk) (w : World) (hT : TkS w tv l) (hsm : ∀ tk ∈ l, tk.small) (hU : U8T w) :
    Calls Tryd.prog 12 #[tv] w fun e w' => e = .returned (.bool (wholeL l)) ∧ Below w.heap.size w w' := by
  have hR := refRight_any tv l w hT hsm hU
  obtain ⟨vp, vc, rfl, hc1, hc2, hcell⟩ := hT
  replace hU := Lib.hid hU
  replace hsm := Lib.hid hsm
  cases hr : rightL l
  · rw [hr] at hR
    have hW : wholeL l = false := by unfold wholeL; rw [hr]; rfl
    rw [hW]
    replace hR := Lib.hid hR
    replace hr := Lib.hid hr
    replace hW := Lib.hid hW
    replace hcell := Lib.hid hcell
    go_enter Tryd.func12, Tryd.ntmps12
    go_wp2_with (go_at_call 10; refine hR.out.mono ?_; rintro e w1 ⟨rfl, hb⟩)
    go_ret
    exact ⟨rfl, hb⟩
  rw [hr] at hR
  have h64 : l.length ≤ 64 := by unfold rightL at hr; simp at hr; exact hr.1
  have hops := right_ops hr
  replace hR := Lib.hid hR
  rcases Nat.eq_zero_or_pos l.length with h0 | h0
  · have hn0 : l = [] := List.length_eq_zero_iff.1 h0
    subst hn0
    replace hcell := Lib.hid hcell
    have hW : wholeL [] = false := rfl
    rw [hW]
    go_enter Tryd.func12, Tryd.ntmps12
    go_wp2_with (go_at_call 10; refine hR.out.mono ?_; rintro e w1 ⟨rfl, hb⟩)
    go_ret
    exact ⟨rfl, hb⟩
  have hn0 : ((l.length : Int) == 0) = false := by rw [beq_eq_false_iff_ne]; omega
  have hn9 : (l.length : Int) ≤ 9223372036854775807 := by omega
  have hYes : (∀ j, j < l.length - 1 → opsTo l (j + 1) ≠ some []) → wholeL l = true := fun h => by
    unfold wholeL
    rw [hr, decide_eq_true_iff.2 h]
    cases l with
    | nil => simp at h0
    | cons a r => rfl
  have hNo := fun j (h1 : j < l.length - 1) (h2 : opsTo l (j + 1) = some []) => whole_no h1 h2
  have hSome : ∀ i, i ≤ l.length → (opsTo l i).isSome = true := fun i hi => opsTo_some hi (by rw [hops]; rfl)
  generalize wholeL l = WL at *
  replace hYes := Lib.hid hYes
  replace hNo := Lib.hid hNo
  replace hSome := Lib.hid hSome
  replace hops := Lib.hid hops
  replace hr := Lib.hid hr
  obtain ⟨b, o, rfl, hb, hcc⟩ := hcell h0
  clear hcell
  replace hcc := Lib.hid hcc
  go_enter Tryd.func12, Tryd.ntmps12
  go_wp2_with (go_at_call 10; refine hR.out.mono ?_; rintro e w1 ⟨rfl, hb1⟩; obtain ⟨kc, kf⟩ := bat hb1 b hb; have hbl := Nat.lt_of_lt_of_le hb hb1.size; replace hb1 := Lib.hid hb1)
  go_loopw [3, 4] (fun s3 s4 wr => ∃ (i : Nat) (op : List (List UInt8)), i ≤ l.length ∧ s3 = .int .i64 op.length ∧ s4 = .int .i64 i ∧ Hid (opsTo l i = some op) ∧ op.length ≤ 64 ∧ op.length ≤ i ∧ Hid (∀ j, j < i → j < l.length - 1 → opsTo l (j + 1) ≠ some []) ∧ wr = w1) (fun _ s4 _ => l.length - (intOf s4).toNat)
  case atStart =>
    exact ⟨0, [], by omega, rfl, rfl, Lib.hid rfl, by simp, by simp, Lib.hid (fun j h => absurd h (by omega)), rfl⟩
  case round =>
    obtain ⟨i, op, hil, rfl, rfl, hop, h6, h7, hD, rfl⟩ := hrel
    by_cases hlt : i < l.length
    · obtain ⟨sv, c0, -⟩ := hcc.out i hlt
      obtain ⟨op', hop'⟩ := Option.isSome_iff_exists.1 (hSome.out (i + 1) hlt)
      have hst := ops_step hlt hop.out
      rw [hop'] at hst
      have hsl := step_len hst.symm
      clear hst
      have hii : (i : Int) < l.length := by omega
      generalize (l[i]'hlt).k = kk at c0 hsl
      have hD' : op' ≠ [] → ∀ j, j < i + 1 → j < l.length - 1 → opsTo l (j + 1) ≠ some [] := fun h j h1 h2 => by
        by_cases e : j = i
        · subst e; rw [hop']; intro h9; injection h9 with h9; exact h h9
        · exact hD.out j (by omega) h2
      have hD'' : ¬ i < l.length - 1 → ∀ j, j < i + 1 → j < l.length - 1 → opsTo l (j + 1) ≠ some [] := fun h j h1 h2 => hD.out j (by omega) h2
      have hNN : i < l.length - 1 → op' = [] → WL = false := fun h1 h2 => hNo.out i h1 (by rw [hop', h2])
      have hl' : op'.length ≤ i + 1 := by omega
      have hln : (op' = []) ↔ op'.length = 0 := List.length_eq_zero_iff.symm
      replace hop' := Lib.hid hop'
      rw [ne_eq, hln] at hD'
      rw [hln] at hNN
      clear hln
      replace hD' := Lib.hid hD'
      replace hD'' := Lib.hid hD''
      replace hNN := Lib.hid hNN
      by_cases hz : op'.length = 0
      · by_cases hlast : i < l.length - 1
        · have hW := Lib.hid (hNN.out hlast hz)
          have hlb : decide ((i : Int) < (l.length : Int) - 1) = true := by simp; omega
          rcases hsl with ⟨rfl, e⟩ | ⟨rfl, e⟩ | ⟨rfl, e, -, -⟩
          · omega
          · have e1 : (op.length : Int) - 1 = 0 := by omega
            go_wp2_with fail
            go_ret
            exact ⟨by rw [hW.out]; rfl, hb1.out⟩
          · have e1 : (op.length : Int) = 0 := by omega
            go_wp2_with fail
            go_ret
            exact ⟨by rw [hW.out]; rfl, hb1.out⟩
        · have hlb : decide ((i : Int) < (l.length : Int) - 1) = false := by simp; omega
          have hD9 := Lib.hid (hD''.out hlast)
          rcases hsl with ⟨rfl, e⟩ | ⟨rfl, e⟩ | ⟨rfl, e, -, -⟩
          · omega
          · have e1 : (op.length : Int) - 1 = 0 := by omega
            go_wp2_with fail
            exact ⟨⟨i + 1, op', by omega, by first | (rw [hz]; rfl) | (rw [e]) | (simp; omega), by simp, hop', by omega, by omega, hD9, by first | rfl | trivial⟩, by simp [intOf]; omega⟩
          · have e1 : (op.length : Int) = 0 := by omega
            go_wp2_with fail
            exact ⟨⟨i + 1, op', by omega, by first | (rw [hz]; rfl) | (rw [e]) | (simp; omega), by simp, hop', by omega, by omega, hD9, by first | rfl | trivial⟩, by simp [intOf]; omega⟩
      · have hD9 := Lib.hid (hD'.out hz)
        rcases hsl with ⟨rfl, e⟩ | ⟨rfl, e⟩ | ⟨rfl, e, -, -⟩
        · have e1 : ((op.length : Int) + 1 == 0) = false := by rw [beq_eq_false_iff_ne]; omega
          go_wp2_with fail
          exact ⟨⟨i + 1, op', by omega, by rw [e]; simp, by simp, hop', by omega, by omega, hD9, by first | rfl | trivial⟩, by simp [intOf]; omega⟩
        · have e1 : ((op.length : Int) - 1 == 0) = false := by rw [beq_eq_false_iff_ne]; omega
          have e2 : (op.length : Int) - 1 = op'.length := by omega
          have e3 : ((op'.length : Int) == 0) = false := by rw [beq_eq_false_iff_ne]; omega
          go_wp2_with fail
          exact ⟨⟨i + 1, op', by omega, by first | rfl | (rw [← e2]), by simp, hop', by omega, by omega, hD9, by first | rfl | trivial⟩, by simp [intOf]; omega⟩
        · have e1 : ((op.length : Int) == 0) = false := by rw [beq_eq_false_iff_ne]; omega
          go_wp2_with fail
          exact ⟨⟨i + 1, op', by omega, by rw [e], by simp, hop', by omega, by omega, hD9, by first | rfl | trivial⟩, by simp [intOf]; omega⟩
    · obtain rfl : i = l.length := by omega
      have hW := Lib.hid (hYes.out (fun j h => hD.out j (by omega) h))
      go_wp2_with fail
      go_ret
      exact ⟨by rw [hW.out]; rfl, hb1.out⟩
end Go.Proofs.YtadahlffdhgapaaDoor
