/-
  An error of a condition, wrapped so often (wrapped). Condition: the places are a slice in memory.
-/
import Derived.Test.YtegdmfpdelboaaaDoorFaultLive
namespace Go.Proofs.YtegdmfpdelboaaaDoor
set_option linter.unusedVariables false
set_option linter.unusedSimpArgs false
open Go.RowKit
/-- a slice of numbers -/
def Pl (w : World) (v : Value) (qs : List Int) : Prop :=
  (v = .slice none 0 0 ∧ qs = []) ∨ ∃ (a : Addr) (cap : Nat), v = .slice (some a) qs.length cap ∧ (0 < qs.length → a.block < w.heap.size) ∧ (∀ i, i < qs.length → w.cell? (a.add i) = some (.int .i64 (qs.getD i 0))) ∧ qs.length ≤ cap ∧ cap ≤ maxLen
theorem take_rev (qs : List Int) (k : Nat) (h : k < qs.length) : (qs.take (k + 1)).reverse = qs.getD k 0 :: (qs.take k).reverse := by
  rw [List.take_succ_eq_append_getElem h]
  simp [List.getD, h]
theorem wrapped_un (c : Int) (hk : knownB c = false) (v : Value) (qs : List Int) (w : World) (h : Pl w v qs) :
    Calls Tryd.prog 13 #[.int .i64 c, v] w fun e w' => e = .returned .nilIface ∧ Below w.heap.size w w' := by
  rcases h with ⟨rfl, rfl⟩ | ⟨a, cap, rfl, ha, hcell, hl, hm⟩
  · go_enter Tryd.func13, Tryd.ntmps13
    go_wp2_with (go_at_call 19; refine (make_any _ _).mono ?_; rintro e w1 ⟨rfl, rfl⟩; rw [hk])
    go_loopw [5, 6] (fun v i wr => v = .nilIface ∧ i = .int .i64 0 ∧ w = wr) (fun _ _ _ => 0)
    case atStart => exact ⟨rfl, rfl, rfl⟩
    case round =>
      obtain ⟨rfl, rfl, rfl⟩ := hrel
      go_wp2
      go_ret
      exact ⟨rfl, Below.refl _ _⟩
  · go_enter Tryd.func13, Tryd.ntmps13
    go_wp2_with (go_at_call 19; refine (make_any _ _).mono ?_; rintro e w1 ⟨rfl, rfl⟩; rw [hk])
    go_loopw [5, 6] (fun v i wr => ∃ k : Nat, k ≤ 30 ∧ v = .nilIface ∧ i = .int .i64 k ∧ w = wr) (fun _ i _ => 31 - (intOf i).toNat)
    case atStart => exact ⟨0, by omega, rfl, rfl, rfl⟩
    case round =>
      obtain ⟨k, hk30, rfl, rfl, rfl⟩ := hrel
      by_cases h1 : k < qs.length
      · have b1 : decide ((k : Int) < (qs.length : Int)) = true := by simp; omega
        by_cases h2 : k < 30
        · have b2 : decide ((k : Int) < 30) = true := by simp; omega
          have hc := hcell k h1
          go_wp2_with (go_at_call 15; refine (wrap_nil _ _).mono ?_; rintro e w1 ⟨rfl, rfl⟩)
          go_roundw
          case rel => exact ⟨k + 1, by omega, rfl, by go_num, trivial⟩
          case measure => simp [intOf]; omega
        · have b2 : decide ((k : Int) < 30) = false := by simp; omega
          go_wp2
          go_ret
          exact ⟨rfl, Below.refl _ _⟩
      · have b1 : decide ((k : Int) < (qs.length : Int)) = false := by simp; omega
        go_wp2
        go_ret
        exact ⟨rfl, Below.refl _ _⟩
theorem wrapped_any (c : Int) (hk : knownB c = true) (v : Value) (qs : List Int) (w : World) (h : Pl w v qs) :
    Calls Tryd.prog 13 #[.int .i64 c, v] w fun e w' => ∃ u, e = .returned u ∧ Ch w' c (qs.take 30).reverse u ∧ Below w.heap.size w w' := by
  rcases h with ⟨rfl, rfl⟩ | ⟨a, cap, rfl, ha, hcell, hl, hm⟩
  · go_enter Tryd.func13, Tryd.ntmps13
    go_wp2_with (go_at_call 19; refine (make_any _ _).mono ?_; rintro e w1 ⟨rfl, rfl⟩; rw [hk])
    go_loopw [5, 6] (fun v i wr => v = .iface 54 (.agg #[.int .i64 c]) ∧ i = .int .i64 0 ∧ w = wr) (fun _ _ _ => 0)
    case atStart => exact ⟨rfl, rfl, rfl⟩
    case round =>
      obtain ⟨rfl, rfl, rfl⟩ := hrel
      go_wp2
      go_ret
      exact ⟨_, rfl, rfl, Below.refl _ _⟩
  · go_enter Tryd.func13, Tryd.ntmps13
    go_wp2_with (go_at_call 19; refine (make_any _ _).mono ?_; rintro e w1 ⟨rfl, rfl⟩; rw [hk])
    go_loopw [5, 6] (fun v i wr => ∃ k : Nat, k ≤ 30 ∧ i = .int .i64 k ∧ Hid (Ch wr c (qs.take k).reverse v) ∧ Hid (Below w.heap.size w wr)) (fun _ i _ => 31 - (intOf i).toNat)
    case atStart => exact ⟨0, by omega, rfl, rfl, Below.refl _ _⟩
    case round =>
      obtain ⟨k, hk30, rfl, hC, hB⟩ := hrel
      obtain ⟨tu, xu, hu⟩ := hC.iface
      subst hu
      by_cases h1 : k < qs.length
      · have b1 : decide ((k : Int) < (qs.length : Int)) = true := by simp; omega
        by_cases h2 : k < 30
        · have b2 : decide ((k : Int) < 30) = true := by simp; omega
          have hc := (hB.cell (p := a.add k) (by unfold Addr.add; split <;> exact ha (by omega))).trans (hcell k h1)
          have hC2 := hC.wrap (p := qs.getD k 0)
          rw [← take_rev qs k h1, show qs.getD k 0 = qs[k] from by simp [List.getD, h1]] at hC2
          go_wp2_with (go_at_call 15; refine (wrap_any _ _ _ _).mono ?_; rintro e w1 ⟨rfl, rfl⟩)
          go_roundw
          case rel => exact ⟨k + 1, by omega, by go_num, hC2, belowA hB _⟩
          case measure => simp [intOf]; omega
        · have b2 : decide ((k : Int) < 30) = false := by simp; omega
          have e30 : k = 30 := by omega
          subst e30
          go_wp2
          go_ret
          exact ⟨_, rfl, hC, hB⟩
      · have b1 : decide ((k : Int) < (qs.length : Int)) = false := by simp; omega
        have e0 : qs.take 30 = qs.take k := by rw [List.take_of_length_le (by omega), List.take_of_length_le (by omega)]
        go_wp2
        go_ret
        rw [e0]
        exact ⟨_, rfl, hC, hB⟩
end Go.Proofs.YtegdmfpdelboaaaDoor
