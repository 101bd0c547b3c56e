/-
  What the program's functions that turn letters compute. Each string shorter than the reach.
-/
import Derived.Test.YtoijpjmkjhoiaaaJidWalks3
import Derived.RegionTactic
import Derived.ChangeAlike
import Derived.Deep.DeepCutAuto
namespace Go.Proofs.Ytoijpjmkjhoiaaa
set_option linter.unusedVariables false
set_option linter.unusedSimpArgs false
open Go.RowKit
attribute [local go_sem] setCell_drewN alloc_drewN drewN_drewN mk_get
theorem or32_add {c : UInt8} (h1 : 65 ≤ c.toNat) (h2 : c.toNat ≤ 90) : Go.bits .or .u8 (c.toNat : Int) 32 = (c.toNat : Int) + 32 :=
  all_u8 (p := fun c => 65 ≤ c.toNat → c.toNat ≤ 90 → Go.bits .or .u8 (c.toNat : Int) 32 = (c.toNat : Int) + 32) (by decide +kernel) c h1 h2
set_option maxHeartbeats 2000000 in
theorem low_any (s : List UInt8) (w : World) (hs : s.length ≤ 140737488351232) :
    Calls Try.prog 60 #[.string ⟨s.toArray⟩] w fun e w' => e = .returned (.string ⟨(lowL s).toArray⟩) ∧ One w w' := by
  have hconv := Lib.run_convert_string_bytes (P := Try.prog) w 9 116 5 ⟨s.toArray⟩ Try.underlying9 Try.underlying116 Try.underlying5
  have HM := Lib.hid (U8Row.made w 5 s)
  have HB := Lib.hid (One.made w 5 ⟨s.toArray⟩)
  have hB : w.heap.size < (Lib.bytesWorld w 5 ⟨s.toArray⟩).heap.size := by rw [Lib.bytesWorld_size]; omega
  generalize Lib.bytesWorld w 5 ⟨s.toArray⟩ = W at *
  generalize grownCap w (ByteArray.mk s.toArray).size 0 5 = cap at *
  go_enter Try.func60, Try.ntmps60
  go_wp2
  clear hconv
  go_loopw [10] (fun i wr => ∃ k : Nat, k ≤ s.length ∧ i = .int .i64 k ∧ Hid (U8Row wr w.heap.size (mapTo lowB s k)) ∧ Hid (One w wr)) (fun i _ => s.length - (intOf i).toNat)
  case atStart => exact ⟨0, Nat.zero_le _, rfl, by rw [mapTo_zero]; exact HM, HB⟩
  case round =>
    obtain ⟨k, hk, rfl, HA, HW⟩ := hrel
    by_cases hlt : k < s.length
    · have hcell : wr.cell? ⟨w.heap.size, k, none⟩ = some (.int .u8 (s[k].toNat : Int)) := by
        rw [HA.out.1 k (by rw [mapTo_len]; exact hlt), mapTo_get _ _ _ hlt]
      have hfr := HA.out.2 k (by rw [mapTo_len]; exact hlt)
      by_cases hc : 65 ≤ s[k].toNat ∧ s[k].toNat ≤ 90
      · obtain ⟨c1, c2⟩ := hc
        have HN := Lib.hid (lowB_nat c1 c2)
        have HS := Lib.hid (HA.out.store k (by rw [mapTo_len]; exact hlt) (lowB s[k]))
        have d1 : decide (65 ≤ (s[k].toNat : Int)) = true := by simp; omega
        have d2 : decide ((s[k].toNat : Int) ≤ 90) = true := by simp; omega
        have hbits : Go.bits .or .u8 (s[k].toNat : Int) 32 = (s[k].toNat : Int) + 32 := or32_add c1 c2
        go_wp2
        go_roundw
        case rel =>
          refine ⟨k + 1, by omega, by go_num, ?_, ?_⟩
          · rw [Hid, ← mapTo_set _ _ _ hlt]
            have h := HS.out
            have e : ((((lowB s[k]).toNat : Nat) : Int)) = (s[k].toNat : Int) + 32 := by rw [HN.out]; omega
            rw [e] at h
            exact h
          · exact HW.out.store _ _
        case measure => simp [intOf]; omega
      · have HE := Lib.hid (mapTo_skip lowB s k hlt (lowB_miss hc))
        by_cases c1 : 65 ≤ s[k].toNat
        · have c2 : ¬ s[k].toNat ≤ 90 := fun h => hc ⟨c1, h⟩
          clear hc
          have d1 : decide (65 ≤ (s[k].toNat : Int)) = true := by simp; omega
          have d2 : decide ((s[k].toNat : Int) ≤ 90) = false := by simp; omega
          go_wp2
          go_roundw
          case rel => exact ⟨k + 1, by omega, by go_num, by rw [Hid, ← HE.out]; exact HA, HW⟩
          case measure => simp [intOf]; omega
        · clear hc
          have d1 : decide (65 ≤ (s[k].toNat : Int)) = false := by simp; omega
          go_wp2
          go_roundw
          case rel => exact ⟨k + 1, by omega, by go_num, by rw [Hid, ← HE.out]; exact HA, HW⟩
          case measure => simp [intOf]; omega
    · obtain rfl : k = s.length := by omega
      have hback := HA.out.back (P := Try.prog) 116 9 5 Try.underlying116 Try.underlying5 Try.underlying9 cap
      rw [mapTo_len, mapTo_all] at hback
      go_wp2
      go_ret
      exact ⟨rfl, HW.out⟩
end Go.Proofs.Ytoijpjmkjhoiaaa
