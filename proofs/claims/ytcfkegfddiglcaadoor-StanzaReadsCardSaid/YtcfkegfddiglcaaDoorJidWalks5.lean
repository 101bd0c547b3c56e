/-
  What the reference's Parse computes of a text. The text shorter than the reach.
-/
import Derived.Test.YtcfkegfddiglcaaDoorJidWalks4
import Derived.RegionTactic
import Derived.ChangeAlike
import Derived.Deep.DeepCutAuto
import Derived.Deep.CutBlock
namespace Go.Proofs.YtcfkegfddiglcaaDoor
set_option linter.unusedVariables false
set_option linter.unusedSimpArgs false
open Go.RowKit
attribute [local go_sem] setCell_drewN alloc_drewN drewN_drewN mk_get ext0 extE
set_option maxHeartbeats 4000000 in
theorem parse0_any (s : List UInt8) (w : World) (hs : s.length ≤ 140737488351232) :
    Calls Tryd.prog 45 #[.string ⟨s.toArray⟩] w fun e w' => e = .returned (parseV s) ∧ Below w.heap.size w w' := by
  obtain ⟨hf1, hf2⟩ := cutB_le 47 s
  obtain ⟨hg1, hg2⟩ := cutB_le 64 (cutB 47 s).1
  go_enter Tryd.func45, Tryd.ntmps45
  go_upto_block 0 with (fail)
  go_cut [5, 6] (fun v5 v6 wx => ∃ n : Nat, v5 = .string ⟨(cutB 47 s).1.toArray⟩ ∧ wx = ((w.alloc (.cells #[.string ⟨#[]⟩, .string ⟨#[]⟩, .string ⟨#[]⟩] 59)).alloc (.cells #[.string ⟨#[]⟩, .string ⟨#[]⟩, .string ⟨(cutB 47 s).2.1.toArray⟩] 59)).drewN n)
  case first =>
    go_wp2
    go_loop [5, 6] (fun f i => ∃ k : Nat, k ≤ s.length ∧ f = .string ⟨s.toArray⟩ ∧ i = .int .i64 k ∧ Hid (noB 47 s k)) (fun _ i => s.length - (intOf i).toNat)
    case atStart => exact ⟨0, Nat.zero_le _, rfl, rfl, noB_zero _ _⟩
    case round =>
      obtain ⟨k, hk, rfl, rfl, HA⟩ := hrel
      by_cases hlt : k < s.length
      · by_cases hc : s[k] = 47
        · have hd : ((s[k].toNat : Int) == 47) = true := by rw [hc]; rfl
          have HE := Lib.hid (cutB_at HA.out hlt hc)
          clear hc
          have q1 : (0 : Int) ≤ (k : Int) := by omega
          have q2 : (k : Int) + 1 ≤ (s.length : Int) := by omega
          go_wp2
          go_region
          all_goals go_wp2
          all_goals go_meet
          exact ⟨1, by rw [HE.out], by rw [HE.out]; rfl⟩
        · have hd : ((s[k].toNat : Int) == 47) = false := by
            rw [beq_eq_false_iff_ne]; intro h; apply hc; have h' : s[k].toNat = 47 := by exact_mod_cast h
            exact UInt8.toNat_inj.1 h'
          have HE := Lib.hid (noB_succ HA.out hlt hc)
          clear hc
          go_wp2
          go_round
          case rel => exact ⟨k + 1, by omega, rfl, by go_num, HE⟩
          case measure => simp [intOf]; omega
      · obtain rfl : k = s.length := by omega
        have HE := Lib.hid (cutB_end HA.out)
        go_wp2
        go_meet
        exact ⟨0, by rw [HE.out], by rw [HE.out]; rfl⟩
  case rest =>
    obtain ⟨n, rfl, rfl⟩ := hcut
    generalize hL : (if (cutB 64 (cutB 47 s).1).2.2 then (cutB 64 (cutB 47 s).1).1 else []) = L
    generalize hD : (if (cutB 64 (cutB 47 s).1).2.2 then (cutB 64 (cutB 47 s).1).2.1 else (cutB 47 s).1) = D
    replace hL := Lib.hid hL
    replace hD := Lib.hid hD
    go_upto_block 2 with (fail)
    go_cut [7] (fun v7 wx => ∃ n : Nat, wx = ((w.alloc (.cells #[.string ⟨#[]⟩, .string ⟨#[]⟩, .string ⟨#[]⟩] 59)).alloc (.cells #[.string ⟨L.toArray⟩, .string ⟨D.toArray⟩, .string ⟨(cutB 47 s).2.1.toArray⟩] 59)).drewN n)
    case first =>
      go_wp2
      go_loop [7] (fun i => ∃ k : Nat, k ≤ (cutB 47 s).1.length ∧ i = .int .i64 k ∧ Hid (noB 64 (cutB 47 s).1 k)) (fun i => (cutB 47 s).1.length - (intOf i).toNat)
      case atStart => exact ⟨0, Nat.zero_le _, rfl, noB_zero _ _⟩
      case round =>
        obtain ⟨k, hk, rfl, HA⟩ := hrel
        by_cases hlt : k < (cutB 47 s).1.length
        · by_cases hc : (cutB 47 s).1[k] = 64
          · have hd : (((cutB 47 s).1[k].toNat : Int) == 64) = true := by rw [hc]; rfl
            have HE := Lib.hid (cutB_at HA.out hlt hc)
            clear hc
            have q1 : (0 : Int) ≤ (k : Int) := by omega
            have q2 : (k : Int) + 1 ≤ ((cutB 47 s).1.length : Int) := by omega
            go_wp2
            go_region
            all_goals go_wp2
            all_goals go_meet
            exact ⟨n + 1, by rw [← hL.out, ← hD.out, HE.out]; simp [World.drewN, World.drew, Nat.add_assoc]⟩
          · have hd : (((cutB 47 s).1[k].toNat : Int) == 64) = false := by
              rw [beq_eq_false_iff_ne]; intro h; apply hc; have h' : (cutB 47 s).1[k].toNat = 64 := by exact_mod_cast h
              exact UInt8.toNat_inj.1 h'
            have HE := Lib.hid (noB_succ HA.out hlt hc)
            clear hc
            go_wp2
            go_round
            case rel => exact ⟨k + 1, by omega, by go_num, HE⟩
            case measure => simp [intOf]; omega
        · obtain rfl : k = (cutB 47 s).1.length := by omega
          have HE := Lib.hid (cutB_end HA.out)
          go_wp2
          go_meet
          exact ⟨n, by rw [← hL.out, ← hD.out, HE.out]; simp⟩
    case rest =>
      obtain ⟨n, rfl⟩ := hcut
      have l1 : L.length ≤ s.length := by rw [← hL.out]; split <;> first | omega | simp
      have l2 : D.length ≤ s.length := by rw [← hD.out]; split <;> omega
      generalize hR : (cutB 47 s).2.1 = R at *
      have hno : parseL s = none → rightJ L D R = false ∨ joinL L D R ≠ s := fun h => by
        have := parse_none h
        rwa [hL.out, hD.out, hR] at this
      have hyes : ∀ l d r, parseL s = some (l, d, r) → l = L ∧ d = D ∧ r = R := fun l d r h => by
        have := parse_at h
        rwa [hL.out, hD.out, hR] at this
      by_cases hok : s.length ≤ 64 ∧ rightJ L D R = true ∧ joinL L D R = s
      · obtain ⟨k1, k2, k3⟩ := hok
        have HV : Hid (parseV s = .tuple #[.agg #[.string ⟨L.toArray⟩, .string ⟨D.toArray⟩, .string ⟨R.toArray⟩], .int .i64 0]) := by
          unfold Hid parseV
          cases hp : parseL s with
          | none => rcases hno hp with h | h; (rw [k2] at h; cases h); exact absurd k3 h
          | some x => obtain ⟨l, d, r⟩ := x; obtain ⟨rfl, rfl, rfl⟩ := hyes l d r hp; rfl
        clear hno hyes hL hD hR
        obtain ⟨-, -, -, -, -, g1, g2, g3⟩ := rightJ_parts k2
        go_wp2_with (first
          | (go_at_call 56; refine (right0_any _ _ _ _ (by omega) (by omega) (by omega)).mono ?_; rintro e w' ⟨rfl, hb⟩; obtain ⟨hcA, hzA⟩ := bat hb w.heap.size (by simp <;> omega); obtain ⟨hcB, hzB⟩ := bat hb (w.heap.size + 1) (by simp <;> omega); have e1 : w.heap.size + 1 < w'.heap.size := (by have := hb.size; simp at this; omega); replace hb := Lib.hid hb)
          | (go_at_call 57; refine (text_any _ _ _ _ (by omega) (by omega) (by omega)).mono ?_; rintro e w2 ⟨rfl, hb2⟩; obtain ⟨hc2A, hz2A⟩ := bat hb2 w.heap.size (by omega); obtain ⟨hc2B, hz2B⟩ := bat hb2 (w.heap.size + 1) (by omega); replace hb2 := Lib.hid hb2))
        refine bodyPost_ret (v := .tuple #[.agg #[.string ⟨L.toArray⟩, .string ⟨D.toArray⟩, .string ⟨R.toArray⟩], .int .i64 0]) (by simp [results, Tryd.results45, go_sem, hc2A, hz2A, hcA, hzA]) rfl ⟨by rw [HV.out], ?_⟩
        exact (((belowT (belowT (belowN ((below1 w _).alloc (by simp) _) n) hb.out) hb2.out).setCell (Nat.le_refl _) _).setCell (Nat.le_refl _) _).setCell (Nat.le_refl _) _
      · have HV : Hid (parseV s = .tuple #[.agg #[.string ⟨#[]⟩, .string ⟨#[]⟩, .string ⟨#[]⟩], .int .i64 3]) := by
          unfold Hid parseV
          cases hp : parseL s with
          | none => rfl
          | some x =>
            obtain ⟨l, d, r⟩ := x
            obtain ⟨rfl, rfl, rfl⟩ := hyes l d r hp
            obtain ⟨h1, h2⟩ := join_parse hp
            exact absurd ⟨by rw [← h2]; exact (rightJ_parts h1).2.2.2.2.1, h1, h2⟩ hok
        by_cases c1 : s.length ≤ 64
        · cases c2 : rightJ L D R
          · clear hno hyes hL hD hR hok
            go_wp2_with (first
              | (go_at_call 56; refine (right0_any _ _ _ _ (by omega) (by omega) (by omega)).mono ?_; rintro e w' ⟨rfl, hb⟩; obtain ⟨hcA, hzA⟩ := bat hb w.heap.size (by simp <;> omega); obtain ⟨hcB, hzB⟩ := bat hb (w.heap.size + 1) (by simp <;> omega); have e1 : w.heap.size + 1 < w'.heap.size := (by have := hb.size; simp at this; omega); replace hb := Lib.hid hb)
              | (go_at_call 57; refine (text_any _ _ _ _ (by omega) (by omega) (by omega)).mono ?_; rintro e w2 ⟨rfl, hb2⟩; obtain ⟨hc2A, hz2A⟩ := bat hb2 w.heap.size (by omega); obtain ⟨hc2B, hz2B⟩ := bat hb2 (w.heap.size + 1) (by omega); replace hb2 := Lib.hid hb2))
            refine bodyPost_ret (v := .tuple #[.agg #[.string ⟨#[]⟩, .string ⟨#[]⟩, .string ⟨#[]⟩], .int .i64 3]) (by simp [results, Tryd.results45, go_sem, hcA, hzA]) rfl ⟨by rw [HV.out], ?_⟩
            exact (((belowT (belowN ((below1 w _).alloc (by simp) _) n) hb.out).setCell (Nat.le_refl _) _).setCell (Nat.le_refl _) _).setCell (Nat.le_refl _) _
          · have c3 : (joinL L D R == s) = false := by simpa using fun h => hok ⟨c1, c2, h⟩
            obtain ⟨-, -, -, -, -, g1, g2, g3⟩ := rightJ_parts c2
            clear hno hyes hL hD hR hok
            go_wp2_with (first
              | (go_at_call 56; refine (right0_any _ _ _ _ (by omega) (by omega) (by omega)).mono ?_; rintro e w' ⟨rfl, hb⟩; obtain ⟨hcA, hzA⟩ := bat hb w.heap.size (by simp <;> omega); obtain ⟨hcB, hzB⟩ := bat hb (w.heap.size + 1) (by simp <;> omega); have e1 : w.heap.size + 1 < w'.heap.size := (by have := hb.size; simp at this; omega); replace hb := Lib.hid hb)
              | (go_at_call 57; refine (text_any _ _ _ _ (by omega) (by omega) (by omega)).mono ?_; rintro e w2 ⟨rfl, hb2⟩; obtain ⟨hc2A, hz2A⟩ := bat hb2 w.heap.size (by omega); obtain ⟨hc2B, hz2B⟩ := bat hb2 (w.heap.size + 1) (by omega); replace hb2 := Lib.hid hb2))
            refine bodyPost_ret (v := .tuple #[.agg #[.string ⟨#[]⟩, .string ⟨#[]⟩, .string ⟨#[]⟩], .int .i64 3]) (by simp [results, Tryd.results45, go_sem, hc2A, hz2A, hcA, hzA]) rfl ⟨by rw [HV.out], ?_⟩
            exact (((belowT (belowT (belowN ((below1 w _).alloc (by simp) _) n) hb.out) hb2.out).setCell (Nat.le_refl _) _).setCell (Nat.le_refl _) _).setCell (Nat.le_refl _) _
        · clear hno hyes hL hD hR hok
          go_wp2
          refine bodyPost_ret (v := .tuple #[.agg #[.string ⟨#[]⟩, .string ⟨#[]⟩, .string ⟨#[]⟩], .int .i64 3]) (by simp [results, Tryd.results45, go_sem]) rfl ⟨by rw [HV.out], ?_⟩
          exact belowN ((below1 w _).alloc (by simp) _) _
end Go.Proofs.YtcfkegfddiglcaaDoor
