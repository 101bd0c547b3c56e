/-
  Depth at a chain. Condition: fewer places than the reach.
-/
import Derived.Test.YtegdmfpdelboaaaDoorFaultUnwrap
namespace Go.Proofs.YtegdmfpdelboaaaDoor
set_option linter.unusedVariables false
set_option linter.unusedSimpArgs false
open Go.RowKit
def leftD (n : Nat) (v i : Value) : Nat := match v with | .nilIface => 0 | _ => n + 1 - (intOf i).toNat
set_option maxRecDepth 20000 in
theorem depth_any (c : Int) (ps : List Int) (v : Value) (w : World) (h : Ch w c ps v) (hl : ps.length ≤ 140737488351232) :
    Calls Tryd.prog 22 #[v] w fun e w' => e = .returned (.int .i64 ps.length) ∧ w = w' := by
  have a1 := isPlaced
  have a2 := isNoPlaced
  go_enter Tryd.func22, Tryd.ntmps22
  go_wp2
  go_loopw [0, 3] (fun v i wr => ∃ k : Nat, k ≤ ps.length ∧ i = .int .i64 k ∧ Hid ((∃ qs, Ch w c qs v ∧ k + qs.length = ps.length) ∨ (v = .nilIface ∧ k = ps.length)) ∧ w = wr) (fun v i _ => leftD ps.length v i)
  case atStart => exact ⟨0, Nat.zero_le _, rfl, .inl ⟨ps, h, by omega⟩, rfl⟩
  case round =>
    obtain ⟨k, hk, rfl, HN, rfl⟩ := hrel
    rcases HN with ⟨qs, hq, hs⟩ | ⟨rfl, hs⟩
    · cases qs with
      | nil =>
        obtain rfl := hq
        go_wp2_with (go_at_call 20; refine (unwrap_fault _ _).mono ?_; rintro e w1 ⟨rfl, rfl⟩)
        go_roundw
        case rel => exact ⟨k, hk, rfl, .inr ⟨rfl, by simpa using hs⟩, trivial⟩
        case measure => simp [leftD, intOf]; omega
      | cons q qs =>
        obtain ⟨B, u, rfl, h2, h3, h4, h5⟩ := hq
        go_wp2_with (go_at_call 20; refine (unwrap_placed B u _ h3).mono ?_; rintro e w1 ⟨rfl, rfl⟩)
        go_roundw
        case rel => exact ⟨k + 1, by simp at hs; omega, by go_num, .inl ⟨qs, h5, by simp at hs; omega⟩, trivial⟩
        case measure =>
          obtain ⟨t, x, rfl⟩ := h5.iface
          simp at hs
          simp [leftD, intOf]
          omega
    · go_wp2
      go_ret
      subst hs
      exact ⟨rfl, rfl⟩
theorem depth_nil (w : World) : Calls Tryd.prog 22 #[.nilIface] w fun e w' => e = .returned (.int .i64 0) ∧ w = w' := by
  go_enter Tryd.func22, Tryd.ntmps22
  go_wp2
  go_loopw [0, 3] (fun v i wr => v = .nilIface ∧ i = .int .i64 0 ∧ w = wr) (fun _ _ _ => 0)
  case atStart => exact ⟨rfl, rfl, rfl⟩
  case round =>
    obtain ⟨rfl, rfl, rfl⟩ := hrel
    go_wp2
    go_ret
    exact ⟨rfl, rfl⟩
end Go.Proofs.YtegdmfpdelboaaaDoor
