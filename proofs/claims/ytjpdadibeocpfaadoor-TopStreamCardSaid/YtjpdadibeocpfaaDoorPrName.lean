/-
  A name at a text's head (xml.name). Condition: the text shorter than the reach; the head is a right name.
-/
import Derived.Test.YtjpdadibeocpfaaDoorPbC
import Derived.Test.YtjpdadibeocpfaaDoorPrByte
import Derived.Scope
import Derived.Deep.QuietTactic
import Derived.BigQuiet
namespace Go.Proofs.YtjpdadibeocpfaaDoor
set_option linter.unusedVariables false
set_option linter.unusedSimpArgs false
open Go.RowKit
attribute [local go_sem] mk_get
theorem ret_ss {a b c d : ByteArray} (h : a = b) (h' : c = d) : Ending.returned (.tuple #[.string a, .string c]) = .returned (.tuple #[.string b, .string d]) := by rw [h, h']
set_option maxRecDepth 100000 in
set_option maxHeartbeats 8000000 in
theorem xname_any (s : List UInt8) (w : World) (hs : s.length ≤ 140737488351232) (hn : nameP (s.take (headN nameC s)) = true) :
    Calls Tryd.prog 53 #[.string ⟨s.toArray⟩] w fun e w' => e = .returned (.tuple #[.string ⟨(s.take (headN nameC s)).toArray⟩, .string ⟨(s.drop (headN nameC s)).toArray⟩]) ∧ ∃ n, w' = w.drewN n := by
  have hle : headN nameC s ≤ s.length := (List.takeWhile_sublist _).length_le
  generalize hN : headN nameC s = N at hn hle ⊢
  replace hN := Lib.hid hN
  have hl1 : (s.take N).length ≤ 140737488351232 := by rw [List.length_take]; omega
  go_enter Tryd.func53, Tryd.ntmps53
  go_wp2
  refine wp_scope_straight ?_
  go_wp2_with fail
  apply wp_label
  go_wp2_with fail
  go_loop [4] (fun i => ∃ k : Nat, k ≤ s.length ∧ i = .int .i64 k ∧ Hid (headTo nameC s k)) (fun i => s.length - (intOf i).toNat)
  case atStart => exact ⟨0, Nat.zero_le _, rfl, fun i _ h => absurd h (Nat.not_lt_zero _)⟩
  case round =>
    obtain ⟨k, hk, rfl, HA⟩ := hrel
    by_cases hlt : k < s.length
    · have hsn := Lib.hid (fun h => headTo_snoc HA.out hlt h)
      have hen := Lib.hid (fun h : nameC (s[k]'hlt) = false => head_end (f := nameC) hk HA.out (fun _ => h))
      go_wp2_with fail
      all_goals first
        | (go_round
           case rel => exact ⟨k + 1, by omega, by go_num, hsn.out (by simp only [nameC, nameAt, decide_eq_true_eq]; simp at *; omega)⟩
           case measure => simp [intOf]; omega)
        | (have hc : nameC (s[k]'hlt) = false := by
             simp only [nameC, nameAt, decide_eq_false_iff_not]; simp at *; omega
           have hNk : N = k := by rw [← hN.out]; exact hen.out hc
           subst hNk
           rw [ext0]
           refine (textName_any (s.take N) _ hl1).mono ?_
           rintro e w1 ⟨rfl, rfl⟩
           rw [hn]
           have q1 : (0 : Int) ≤ (N : Int) := by omega
           have q2 : (N : Int) ≤ (s.length : Int) := by omega
           replace hn := Lib.hid hn
           clear hc hsn hen
           go_wp2_with (go_at_call 37; refine (must_ok 6 _).mono ?_; rintro e w2 ⟨rfl, rfl⟩)
           go_quiet (fail)
           go_wp2
           try rw [Exit.noGoto_ret]
           go_ret2
           exact ⟨ret_ss (ext0 s N) (extE s N), _, rfl⟩)
    · have hNk : N = s.length := by
        rw [← hN.out]
        exact head_end (f := nameC) (Nat.le_refl _) (by rw [show s.length = k by omega]; exact HA.out) (fun h => absurd h (by omega))
      have hkk : k = N := by omega
      subst hkk
      have q1 : (0 : Int) ≤ (k : Int) := by omega
      have q2 : (k : Int) ≤ (s.length : Int) := by omega
      replace hNk := Lib.hid hNk
      go_wp2_with (first
        | (go_at_call 56; rw [ext0]; refine (textName_any (s.take k) _ hl1).mono ?_; rintro e w1 ⟨rfl, rfl⟩; rw [hn])
        | (go_at_call 37; refine (must_ok 6 _).mono ?_; rintro e w2 ⟨rfl, rfl⟩))
      go_quiet (fail)
      go_wp2
      try rw [Exit.noGoto_ret]
      go_ret2
      exact ⟨ret_ss (ext0 s k) (extE s k), _, rfl⟩
end Go.Proofs.YtjpdadibeocpfaaDoor
