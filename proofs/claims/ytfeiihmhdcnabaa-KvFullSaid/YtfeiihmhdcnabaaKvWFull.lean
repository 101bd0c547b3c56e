/-
  The walk of KvFull.
-/
import Derived.Test.YtfeiihmhdcnabaaKvSame
namespace Go.Proofs.Ytfeiihmhdcnabaa
set_option linter.unusedVariables false
set_option linter.unusedSimpArgs false
open Go.RowKit Go.MapKept
def fullK (k : Nat) : Ats := (List.range k).map fun j => ([UInt8.ofNat j, 120], [118])
theorem full_len (k : Nat) : (fullK k).length = k := by simp [fullK]
theorem full_succ (k : Nat) : fullK (k + 1) = fullK k ++ [([UInt8.ofNat k, 120], [118])] := by
  unfold fullK
  rw [List.range_succ, List.map_append]
  rfl
theorem full_put {k : Nat} (hk : k < 128) : putE (fullK k) [UInt8.ofNat k, 120] [118] = (fullK (k + 1), 0) := by
  have h2 : (putE (fullK k) [UInt8.ofNat k, 120] [118]).2 = 0 := by
    unfold putE
    rw [if_neg (by simp), if_neg (by rw [full_len]; omega)]
  have hg : ∀ e ∈ fullK k, e.1 < [UInt8.ofNat k, 120] := by
    intro e he
    obtain ⟨j, hj, rfl⟩ := List.mem_map.1 he
    have hj' := List.mem_range.1 hj
    refine tl_cons.2 (.inl ?_)
    rw [UInt8.lt_iff_toNat_lt]
    simp
    omega
  have h1 := (put_last h2 hg).1
  rw [full_succ]
  exact Prod.ext h1 h2
theorem full_par (s : Txt) : (parE (fullK 128) s).isSome = (match s with
    | [x, y] => y == 120 && decide (x.toNat < 128)
    | _ => false) := by
  have hin : ∀ p, parE (fullK 128) s = some p → ∃ j, j < 128 ∧ s = [UInt8.ofNat j, 120] := fun p hp => by
    obtain ⟨j, hj, e⟩ := List.mem_map.1 (List.mem_map.1 (par_mem hp)).choose_spec.1
    refine ⟨j, List.mem_range.1 hj, ?_⟩
    rw [← (List.mem_map.1 (par_mem hp)).choose_spec.2, ← e]
  have hno : (∀ j, j < 128 → s ≠ [UInt8.ofNat j, 120]) → (parE (fullK 128) s).isSome = false := fun h => by
    cases hp : parE (fullK 128) s with
    | none => rfl
    | some p =>
      obtain ⟨j, hj, e⟩ := hin p hp
      exact absurd e (h j hj)
  match s with
  | [] => exact hno (fun j _ e => by cases e)
  | [x] => exact hno (fun j _ e => by cases e)
  | [x, y] =>
    by_cases hy : y = 120
    · by_cases hx : x.toNat < 128
      · have hyes : ∀ (E : Ats), ([x, y], [118]) ∈ E → (parE E [x, y]).isSome = true := by
          intro E hE
          cases hp : parE E [x, y] with
          | some p => rfl
          | none =>
            exfalso
            induction E with
            | nil => cases hE
            | cons e r ih =>
              unfold parE at hp
              split at hp
              · cases hp
              · rename_i hne
                rcases List.mem_cons.1 hE with h | h
                · rw [← h] at hne; exact hne rfl
                · exact ih h hp
        rw [hyes (fullK 128) (List.mem_map.2 ⟨x.toNat, List.mem_range.2 hx, by simp [hy]⟩)]
        simp [hy, hx]
      · rw [hno (fun j hj e => by
          have := congrArg UInt8.toNat (List.cons.inj e).1
          simp at this
          omega)]
        simp [hx]
    · rw [hno (fun j hj e => hy (List.cons.inj (List.cons.inj e).2).1)]
      simp [hy]
  | x :: y :: z :: r => exact hno (fun j _ e => by cases e)
theorem two_bytes (w : World) (k : Nat) (hk : k < 256) : (convert 26 9 (.slice (some ⟨w.heap.size, 0, none⟩) 2 2)).run Try.prog (w.alloc (.cells #[.int .u8 (k : Int), .int .u8 120] 5)) = .ok (.string ⟨#[UInt8.ofNat k, 120]⟩) (w.alloc (.cells #[.int .u8 (k : Int), .int .u8 120] 5)) := by
  have hx := al_newK w (.cells #[.int .u8 (k : Int), .int .u8 120] 5)
  refine BySl.string (l := [UInt8.ofNat k, 120]) ⟨some ⟨w.heap.size, 0, none⟩, 2, rfl, by simp, by unfold maxLen; omega, fun _ => ⟨w.heap.size, 0, rfl, by simp, fun i hi => ?_⟩⟩
  have hi2 : i < 2 := by simpa using hi
  rw [(obj_cells hx).1]
  match i, hi2 with
  | 0, _ =>
    show some (Value.int .u8 (k : Int)) = some (.int .u8 ((UInt8.ofNat k).toNat : Int))
    rw [← u8_of hk]
  | 1, _ => rfl
/-- behind the 128: what Put comes to -/
theorem full_last {key val : Txt} {th : Bool} (hth : (parE (fullK 128) key).isSome = th) : putE (fullK 128) key val = if key = [] ∨ 64 < key.length ∨ 4096 < val.length then (fullK 128, 2) else if th then (insE key val (fullK 128), 0) else (fullK 128, 4) := by
  unfold putE
  split
  · rfl
  · cases th with
    | true =>
      rw [if_neg (fun h => by rw [h.1] at hth; cases hth)]
      rfl
    | false =>
      have hpn : parE (fullK 128) key = none := by
        cases hp : parE (fullK 128) key with
        | none => rfl
        | some p => rw [hp] at hth; cases hth
      rw [if_pos ⟨hpn, by rw [full_len]; omega⟩]
      rfl
set_option maxRecDepth 100000 in
set_option maxHeartbeats 4000000 in
theorem kvFull_walk (key val : Txt) (w : World) (hk : key.length ≤ 140737488351232) (hv : val.length ≤ 140737488351232) :
    Calls Try.prog 3 #[.string ⟨key.toArray⟩, .string ⟨val.toArray⟩] w fun e w' => e = .returned (.bool true) ∧ Below w.heap.size w w' := by
  have hL := Lib.hid live_kv
  have hb0 := Lib.hid (Below.refl w.heap.size w)
  have hPk : Hid (∀ g b k W, k < 128 → KvS W g b (fullK k) → Calls Try.prog 13 #[.pointer (some ⟨g, 0, none⟩), .string ⟨#[UInt8.ofNat k, 120]⟩, .string ⟨#[118]⟩] W fun e w' => e = .returned (.int .i64 0) ∧ KvS w' g b (fullK (k + 1)) ∧ W.grownBy w' (some b)) := Lib.hid fun g b k W hk h => by
    have := put_any g b _ [UInt8.ofNat k, 120] [118] W h (by show 2 ≤ 140737488351232; decide) (by show 1 ≤ 140737488351232; decide)
    rw [full_put hk] at this
    exact this
  go_enter Try.func3, Try.ntmps3
  go_wp2_with (go_at_call 12; refine (new_any w).mono ?_; rintro e w1 ⟨g, b, rfl, hgg, hbb, hK, hbn⟩; replace hK := Lib.hid hK; have hb1 := Lib.hid hbn; clear hbn)
  go_loopw [6] (fun s6 wr => ∃ k : Nat, k ≤ 128 ∧ s6 = .int .i64 k ∧ Hid (KvS wr g b (fullK k)) ∧ Hid (Below w.heap.size w wr)) (fun s6 _ => 128 - (intOf s6).toNat)
  case atStart => exact ⟨0, Nat.zero_le _, rfl, hK, hb1⟩
  case round =>
    clear hK hb1
    obtain ⟨k, hk2, rfl, hK, hB⟩ := hrel
    by_cases hlt : k < 128
    · have hki : (k : Int) < 128 := by omega
      have hk0 : (0 : Int) ≤ (k : Int) := by omega
      have hw8 : IntKind.u8.wrap (k : Int) = (k : Int) := by simp [IntKind.wrap, IntKind.bits, IntKind.signed]; omega
      have hcv := two_bytes wr k (by omega)
      have hK1 : Hid (KvS (wr.alloc (.cells #[.int .u8 (k : Int), .int .u8 120] 5)) g b (fullK k)) := Lib.hid (hK.out.below (below1 wr _))
      have hB1 : Hid (Below w.heap.size w (wr.alloc (.cells #[.int .u8 (k : Int), .int .u8 120] 5))) := Lib.hid (belowA hB.out _)
      go_wp2_with (go_at_call 13; refine (hPk.out _ _ k _ hlt hK1.out).mono ?_; rintro e w3 ⟨rfl, hK3, hg3⟩; replace hK3 := Lib.hid hK3; have hB3 := Lib.hid (hB1.out.grown hg3 hB1.out.size (fun k e => by cases e; exact hbb)); clear hg3)
      go_roundw
      case rel => exact ⟨k + 1, by omega, by simp, hK3, hB3⟩
      case measure => simp [intOf]; omega
    · obtain rfl : k = 128 := by omega
      have hKt : Hid (KvS wr g b (fullK 128)) := hK
      have hth := full_par key
      have hlen1 : ∀ (W : World), True := fun _ => trivial
      by_cases hk2' : key.length = 2
      · obtain ⟨x, y, hkey⟩ : ∃ x y, key = [x, y] := by
          match key, hk2' with
          | [x, y], _ => exact ⟨x, y, rfl⟩
        have hkl : key.length = 2 := hk2'
        have hk1 : 1 ≤ key.length := by omega
        rw [hkey] at hth
        simp only at hth
        rw [← hkey] at hth
        have hix0 : ∀ W, (Instr.index 9 (.string ⟨key.toArray⟩) (.int .i64 0)).run Try.prog W = .ok (.int .u8 (x.toNat : Int)) W := fun W => by rw [hkey]; exact (str_at x y W).1
        have hix1 : ∀ W, (Instr.index 9 (.string ⟨key.toArray⟩) (.int .i64 1)).run Try.prog W = .ok (.int .u8 (y.toNat : Int)) W := fun W => by rw [hkey]; exact (str_at x y W).2
        have hsz : (ByteArray.mk key.toArray).size = 2 := hkl
        by_cases hy : y = 120
        · have hyi : ((y.toNat : Int) == 120) = true := by rw [hy]; rfl
          by_cases hx : x.toNat < 128
          · have hxi : (x.toNat : Int) < 128 := by omega
            rw [hy, decide_eq_true hx] at hth
            simp only [beq_self_eq_true, Bool.and_self] at hth
            by_cases hv4 : val.length ≤ 4096
            · have hv4i : (val.length : Int) ≤ 4096 := by omega
              have hgood : ¬ (key = [] ∨ 64 < key.length ∨ 4096 < val.length) := by rintro (h | h | h) <;> first | (rw [h] at hkl; simp at hkl) | (rw [h] at hk1; simp at hk1) | omega
              replace hkey := Lib.hid hkey
              replace hy := Lib.hid hy
              replace hx := Lib.hid hx
              have hp := full_last (val := val) hth
              rw [if_neg hgood, if_pos rfl] at hp
              have hEl : (insE key val (fullK 128)).length = 128 := by
                rw [ins_len key val (by exact (hKt.out).1.1), if_neg (fun h => by rw [h] at hth; cases hth), full_len]
              have hPf : Hid (∀ W, KvS W g b (fullK 128) → Calls Try.prog 13 #[.pointer (some ⟨g, 0, none⟩), .string ⟨key.toArray⟩, .string ⟨val.toArray⟩] W fun e w' => e = .returned (.int .i64 0) ∧ KvS w' g b (insE key val (fullK 128)) ∧ W.grownBy w' (some b)) := Lib.hid fun W h => by
                have := put_any g b _ key val W h hk hv
                rw [hp] at this
                exact this
              have hLe : Hid (∀ W, KvS W g b (insE key val (fullK 128)) → Calls Try.prog 15 #[.pointer (some ⟨g, 0, none⟩)] W fun e w' => e = .returned (.int .i64 128) ∧ W = w') := Lib.hid fun W h => by
                have := kvLen_any g b _ W h
                rw [hEl] at this
                exact this.mono fun e w' h => ⟨h.1, h.2.symm⟩
              replace hKt := Lib.hid hKt.out
              clear hp hEl hth
              try replace hbad := Lib.hid hbad
              go_wp2_with (first
                | (have m0 := hb5; go_at_call 15; refine (hLe.out _ hK5.out).mono ?_; rintro e w6 ⟨rfl, rfl⟩)
                | (have m0 := hb4; go_at_call 14; refine (hL.out _).mono ?_; rintro e w5 ⟨rfl, hbn⟩; have hK5 := Lib.hid (hK4.out.below hbn); have hb5 := Lib.hid (belowT hb4.out hbn); clear hbn)
                | (go_at_call 13; refine (hPf.out _ hKt.out).mono ?_; rintro e w4 ⟨rfl, hK4, hg4⟩; replace hK4 := Lib.hid hK4; have hb4 := Lib.hid (hB.out.grown hg4 hB.out.size (fun k e => by cases e; exact hbb)); clear hg4))
              go_ret
              exact ⟨by simp, hb5.out⟩
            · have hv4i : ¬ (val.length : Int) ≤ 4096 := by omega
              have hv4d : decide ((val.length : Int) ≤ 4096) = false := by simp; omega
              have hbad : 4096 < val.length := by omega
              replace hkey := Lib.hid hkey
              replace hy := Lib.hid hy
              replace hx := Lib.hid hx
              have hp := full_last (val := val) hth
              rw [if_pos (by first | exact .inl hbad | exact .inr (.inl hbad) | exact .inr (.inr hbad))] at hp
              have hEl : (fullK 128).length = 128 := by
                exact full_len 128
              have hPf : Hid (∀ W, KvS W g b (fullK 128) → Calls Try.prog 13 #[.pointer (some ⟨g, 0, none⟩), .string ⟨key.toArray⟩, .string ⟨val.toArray⟩] W fun e w' => e = .returned (.int .i64 2) ∧ KvS w' g b (fullK 128) ∧ W.grownBy w' (some b)) := Lib.hid fun W h => by
                have := put_any g b _ key val W h hk hv
                rw [hp] at this
                exact this
              have hLe : Hid (∀ W, KvS W g b (fullK 128) → Calls Try.prog 15 #[.pointer (some ⟨g, 0, none⟩)] W fun e w' => e = .returned (.int .i64 128) ∧ W = w') := Lib.hid fun W h => by
                have := kvLen_any g b _ W h
                rw [hEl] at this
                exact this.mono fun e w' h => ⟨h.1, h.2.symm⟩
              replace hKt := Lib.hid hKt.out
              clear hp hEl hth
              try replace hbad := Lib.hid hbad
              go_wp2_with (first
                | (have m0 := hb5; go_at_call 15; refine (hLe.out _ hK5.out).mono ?_; rintro e w6 ⟨rfl, rfl⟩)
                | (have m0 := hb4; go_at_call 14; refine (hL.out _).mono ?_; rintro e w5 ⟨rfl, hbn⟩; have hK5 := Lib.hid (hK4.out.below hbn); have hb5 := Lib.hid (belowT hb4.out hbn); clear hbn)
                | (go_at_call 13; refine (hPf.out _ hKt.out).mono ?_; rintro e w4 ⟨rfl, hK4, hg4⟩; replace hK4 := Lib.hid hK4; have hb4 := Lib.hid (hB.out.grown hg4 hB.out.size (fun k e => by cases e; exact hbb)); clear hg4))
              go_ret
              exact ⟨by simp, hb5.out⟩
          · have hxi : ¬ (x.toNat : Int) < 128 := by omega
            have hxd : decide ((x.toNat : Int) < 128) = false := by simp; omega
            rw [decide_eq_false hx, Bool.and_false] at hth
            by_cases hv4 : val.length ≤ 4096
            · have hv4i : (val.length : Int) ≤ 4096 := by omega
              have hgood : ¬ (key = [] ∨ 64 < key.length ∨ 4096 < val.length) := by rintro (h | h | h) <;> first | (rw [h] at hkl; simp at hkl) | (rw [h] at hk1; simp at hk1) | omega
              replace hkey := Lib.hid hkey
              replace hy := Lib.hid hy
              replace hx := Lib.hid hx
              have hp := full_last (val := val) hth
              rw [if_neg hgood, if_neg (by simp)] at hp
              have hEl : (fullK 128).length = 128 := by
                exact full_len 128
              have hPf : Hid (∀ W, KvS W g b (fullK 128) → Calls Try.prog 13 #[.pointer (some ⟨g, 0, none⟩), .string ⟨key.toArray⟩, .string ⟨val.toArray⟩] W fun e w' => e = .returned (.int .i64 4) ∧ KvS w' g b (fullK 128) ∧ W.grownBy w' (some b)) := Lib.hid fun W h => by
                have := put_any g b _ key val W h hk hv
                rw [hp] at this
                exact this
              have hLe : Hid (∀ W, KvS W g b (fullK 128) → Calls Try.prog 15 #[.pointer (some ⟨g, 0, none⟩)] W fun e w' => e = .returned (.int .i64 128) ∧ W = w') := Lib.hid fun W h => by
                have := kvLen_any g b _ W h
                rw [hEl] at this
                exact this.mono fun e w' h => ⟨h.1, h.2.symm⟩
              replace hKt := Lib.hid hKt.out
              clear hp hEl hth
              try replace hbad := Lib.hid hbad
              go_wp2_with (first
                | (have m0 := hb5; go_at_call 15; refine (hLe.out _ hK5.out).mono ?_; rintro e w6 ⟨rfl, rfl⟩)
                | (have m0 := hb4; go_at_call 14; refine (hL.out _).mono ?_; rintro e w5 ⟨rfl, hbn⟩; have hK5 := Lib.hid (hK4.out.below hbn); have hb5 := Lib.hid (belowT hb4.out hbn); clear hbn)
                | (go_at_call 13; refine (hPf.out _ hKt.out).mono ?_; rintro e w4 ⟨rfl, hK4, hg4⟩; replace hK4 := Lib.hid hK4; have hb4 := Lib.hid (hB.out.grown hg4 hB.out.size (fun k e => by cases e; exact hbb)); clear hg4))
              go_ret
              exact ⟨by simp, hb5.out⟩
            · have hv4i : ¬ (val.length : Int) ≤ 4096 := by omega
              have hv4d : decide ((val.length : Int) ≤ 4096) = false := by simp; omega
              have hbad : 4096 < val.length := by omega
              replace hkey := Lib.hid hkey
              replace hy := Lib.hid hy
              replace hx := Lib.hid hx
              have hp := full_last (val := val) hth
              rw [if_pos (by first | exact .inl hbad | exact .inr (.inl hbad) | exact .inr (.inr hbad))] at hp
              have hEl : (fullK 128).length = 128 := by
                exact full_len 128
              have hPf : Hid (∀ W, KvS W g b (fullK 128) → Calls Try.prog 13 #[.pointer (some ⟨g, 0, none⟩), .string ⟨key.toArray⟩, .string ⟨val.toArray⟩] W fun e w' => e = .returned (.int .i64 2) ∧ KvS w' g b (fullK 128) ∧ W.grownBy w' (some b)) := Lib.hid fun W h => by
                have := put_any g b _ key val W h hk hv
                rw [hp] at this
                exact this
              have hLe : Hid (∀ W, KvS W g b (fullK 128) → Calls Try.prog 15 #[.pointer (some ⟨g, 0, none⟩)] W fun e w' => e = .returned (.int .i64 128) ∧ W = w') := Lib.hid fun W h => by
                have := kvLen_any g b _ W h
                rw [hEl] at this
                exact this.mono fun e w' h => ⟨h.1, h.2.symm⟩
              replace hKt := Lib.hid hKt.out
              clear hp hEl hth
              try replace hbad := Lib.hid hbad
              go_wp2_with (first
                | (have m0 := hb5; go_at_call 15; refine (hLe.out _ hK5.out).mono ?_; rintro e w6 ⟨rfl, rfl⟩)
                | (have m0 := hb4; go_at_call 14; refine (hL.out _).mono ?_; rintro e w5 ⟨rfl, hbn⟩; have hK5 := Lib.hid (hK4.out.below hbn); have hb5 := Lib.hid (belowT hb4.out hbn); clear hbn)
                | (go_at_call 13; refine (hPf.out _ hKt.out).mono ?_; rintro e w4 ⟨rfl, hK4, hg4⟩; replace hK4 := Lib.hid hK4; have hb4 := Lib.hid (hB.out.grown hg4 hB.out.size (fun k e => by cases e; exact hbb)); clear hg4))
              go_ret
              exact ⟨by simp, hb5.out⟩
        · have hyi : ((y.toNat : Int) == 120) = false := by
            have h1 : ¬ y.toNat = 120 := fun h => hy (UInt8.toNat_inj.1 h)
            simp
            omega
          have hyb : (y == 120) = false := by simpa using hy
          rw [hyb, Bool.false_and] at hth
          by_cases hv4 : val.length ≤ 4096
          · have hv4i : (val.length : Int) ≤ 4096 := by omega
            have hgood : ¬ (key = [] ∨ 64 < key.length ∨ 4096 < val.length) := by rintro (h | h | h) <;> first | (rw [h] at hkl; simp at hkl) | (rw [h] at hk1; simp at hk1) | omega
            replace hkey := Lib.hid hkey
            replace hy := Lib.hid hy
            replace hyb := Lib.hid hyb
            have hp := full_last (val := val) hth
            rw [if_neg hgood, if_neg (by simp)] at hp
            have hEl : (fullK 128).length = 128 := by
              exact full_len 128
            have hPf : Hid (∀ W, KvS W g b (fullK 128) → Calls Try.prog 13 #[.pointer (some ⟨g, 0, none⟩), .string ⟨key.toArray⟩, .string ⟨val.toArray⟩] W fun e w' => e = .returned (.int .i64 4) ∧ KvS w' g b (fullK 128) ∧ W.grownBy w' (some b)) := Lib.hid fun W h => by
              have := put_any g b _ key val W h hk hv
              rw [hp] at this
              exact this
            have hLe : Hid (∀ W, KvS W g b (fullK 128) → Calls Try.prog 15 #[.pointer (some ⟨g, 0, none⟩)] W fun e w' => e = .returned (.int .i64 128) ∧ W = w') := Lib.hid fun W h => by
              have := kvLen_any g b _ W h
              rw [hEl] at this
              exact this.mono fun e w' h => ⟨h.1, h.2.symm⟩
            replace hKt := Lib.hid hKt.out
            clear hp hEl hth
            try replace hbad := Lib.hid hbad
            go_wp2_with (first
              | (have m0 := hb5; go_at_call 15; refine (hLe.out _ hK5.out).mono ?_; rintro e w6 ⟨rfl, rfl⟩)
              | (have m0 := hb4; go_at_call 14; refine (hL.out _).mono ?_; rintro e w5 ⟨rfl, hbn⟩; have hK5 := Lib.hid (hK4.out.below hbn); have hb5 := Lib.hid (belowT hb4.out hbn); clear hbn)
              | (go_at_call 13; refine (hPf.out _ hKt.out).mono ?_; rintro e w4 ⟨rfl, hK4, hg4⟩; replace hK4 := Lib.hid hK4; have hb4 := Lib.hid (hB.out.grown hg4 hB.out.size (fun k e => by cases e; exact hbb)); clear hg4))
            go_ret
            exact ⟨by simp, hb5.out⟩
          · have hv4i : ¬ (val.length : Int) ≤ 4096 := by omega
            have hv4d : decide ((val.length : Int) ≤ 4096) = false := by simp; omega
            have hbad : 4096 < val.length := by omega
            replace hkey := Lib.hid hkey
            replace hy := Lib.hid hy
            replace hyb := Lib.hid hyb
            have hp := full_last (val := val) hth
            rw [if_pos (by first | exact .inl hbad | exact .inr (.inl hbad) | exact .inr (.inr hbad))] at hp
            have hEl : (fullK 128).length = 128 := by
              exact full_len 128
            have hPf : Hid (∀ W, KvS W g b (fullK 128) → Calls Try.prog 13 #[.pointer (some ⟨g, 0, none⟩), .string ⟨key.toArray⟩, .string ⟨val.toArray⟩] W fun e w' => e = .returned (.int .i64 2) ∧ KvS w' g b (fullK 128) ∧ W.grownBy w' (some b)) := Lib.hid fun W h => by
              have := put_any g b _ key val W h hk hv
              rw [hp] at this
              exact this
            have hLe : Hid (∀ W, KvS W g b (fullK 128) → Calls Try.prog 15 #[.pointer (some ⟨g, 0, none⟩)] W fun e w' => e = .returned (.int .i64 128) ∧ W = w') := Lib.hid fun W h => by
              have := kvLen_any g b _ W h
              rw [hEl] at this
              exact this.mono fun e w' h => ⟨h.1, h.2.symm⟩
            replace hKt := Lib.hid hKt.out
            clear hp hEl hth
            try replace hbad := Lib.hid hbad
            go_wp2_with (first
              | (have m0 := hb5; go_at_call 15; refine (hLe.out _ hK5.out).mono ?_; rintro e w6 ⟨rfl, rfl⟩)
              | (have m0 := hb4; go_at_call 14; refine (hL.out _).mono ?_; rintro e w5 ⟨rfl, hbn⟩; have hK5 := Lib.hid (hK4.out.below hbn); have hb5 := Lib.hid (belowT hb4.out hbn); clear hbn)
              | (go_at_call 13; refine (hPf.out _ hKt.out).mono ?_; rintro e w4 ⟨rfl, hK4, hg4⟩; replace hK4 := Lib.hid hK4; have hb4 := Lib.hid (hB.out.grown hg4 hB.out.size (fun k e => by cases e; exact hbb)); clear hg4))
            go_ret
            exact ⟨by simp, hb5.out⟩
      · have hk2i : ((key.length : Int) == 2) = false := by simp; omega
        have hth' : (parE (fullK 128) key).isSome = false := by
          rw [hth]
          match key, hk2' with
          | [], _ => rfl
          | [x], _ => rfl
          | x :: y :: z :: r, _ => rfl
        replace hth := hth'
        clear hth'
        by_cases hk1 : 1 ≤ key.length
        · have hk1i : (1 : Int) ≤ (key.length : Int) := by omega
          by_cases hk64 : key.length ≤ 64
          · have hk64i : (key.length : Int) ≤ 64 := by omega
            have hkl : True := trivial
            by_cases hv4 : val.length ≤ 4096
            · have hv4i : (val.length : Int) ≤ 4096 := by omega
              have hgood : ¬ (key = [] ∨ 64 < key.length ∨ 4096 < val.length) := by rintro (h | h | h) <;> first | (rw [h] at hkl; simp at hkl) | (rw [h] at hk1; simp at hk1) | omega
              have hp := full_last (val := val) hth
              rw [if_neg hgood, if_neg (by simp)] at hp
              have hEl : (fullK 128).length = 128 := by
                exact full_len 128
              have hPf : Hid (∀ W, KvS W g b (fullK 128) → Calls Try.prog 13 #[.pointer (some ⟨g, 0, none⟩), .string ⟨key.toArray⟩, .string ⟨val.toArray⟩] W fun e w' => e = .returned (.int .i64 4) ∧ KvS w' g b (fullK 128) ∧ W.grownBy w' (some b)) := Lib.hid fun W h => by
                have := put_any g b _ key val W h hk hv
                rw [hp] at this
                exact this
              have hLe : Hid (∀ W, KvS W g b (fullK 128) → Calls Try.prog 15 #[.pointer (some ⟨g, 0, none⟩)] W fun e w' => e = .returned (.int .i64 128) ∧ W = w') := Lib.hid fun W h => by
                have := kvLen_any g b _ W h
                rw [hEl] at this
                exact this.mono fun e w' h => ⟨h.1, h.2.symm⟩
              replace hKt := Lib.hid hKt.out
              clear hp hEl hth
              try replace hbad := Lib.hid hbad
              go_wp2_with (first
                | (have m0 := hb5; go_at_call 15; refine (hLe.out _ hK5.out).mono ?_; rintro e w6 ⟨rfl, rfl⟩)
                | (have m0 := hb4; go_at_call 14; refine (hL.out _).mono ?_; rintro e w5 ⟨rfl, hbn⟩; have hK5 := Lib.hid (hK4.out.below hbn); have hb5 := Lib.hid (belowT hb4.out hbn); clear hbn)
                | (go_at_call 13; refine (hPf.out _ hKt.out).mono ?_; rintro e w4 ⟨rfl, hK4, hg4⟩; replace hK4 := Lib.hid hK4; have hb4 := Lib.hid (hB.out.grown hg4 hB.out.size (fun k e => by cases e; exact hbb)); clear hg4))
              go_ret
              exact ⟨by simp, hb5.out⟩
            · have hv4i : ¬ (val.length : Int) ≤ 4096 := by omega
              have hv4d : decide ((val.length : Int) ≤ 4096) = false := by simp; omega
              have hbad : 4096 < val.length := by omega
              have hp := full_last (val := val) hth
              rw [if_pos (by first | exact .inl hbad | exact .inr (.inl hbad) | exact .inr (.inr hbad))] at hp
              have hEl : (fullK 128).length = 128 := by
                exact full_len 128
              have hPf : Hid (∀ W, KvS W g b (fullK 128) → Calls Try.prog 13 #[.pointer (some ⟨g, 0, none⟩), .string ⟨key.toArray⟩, .string ⟨val.toArray⟩] W fun e w' => e = .returned (.int .i64 2) ∧ KvS w' g b (fullK 128) ∧ W.grownBy w' (some b)) := Lib.hid fun W h => by
                have := put_any g b _ key val W h hk hv
                rw [hp] at this
                exact this
              have hLe : Hid (∀ W, KvS W g b (fullK 128) → Calls Try.prog 15 #[.pointer (some ⟨g, 0, none⟩)] W fun e w' => e = .returned (.int .i64 128) ∧ W = w') := Lib.hid fun W h => by
                have := kvLen_any g b _ W h
                rw [hEl] at this
                exact this.mono fun e w' h => ⟨h.1, h.2.symm⟩
              replace hKt := Lib.hid hKt.out
              clear hp hEl hth
              try replace hbad := Lib.hid hbad
              go_wp2_with (first
                | (have m0 := hb5; go_at_call 15; refine (hLe.out _ hK5.out).mono ?_; rintro e w6 ⟨rfl, rfl⟩)
                | (have m0 := hb4; go_at_call 14; refine (hL.out _).mono ?_; rintro e w5 ⟨rfl, hbn⟩; have hK5 := Lib.hid (hK4.out.below hbn); have hb5 := Lib.hid (belowT hb4.out hbn); clear hbn)
                | (go_at_call 13; refine (hPf.out _ hKt.out).mono ?_; rintro e w4 ⟨rfl, hK4, hg4⟩; replace hK4 := Lib.hid hK4; have hb4 := Lib.hid (hB.out.grown hg4 hB.out.size (fun k e => by cases e; exact hbb)); clear hg4))
              go_ret
              exact ⟨by simp, hb5.out⟩
          · have hk64i : ¬ (key.length : Int) ≤ 64 := by omega
            have hk64d : decide ((key.length : Int) ≤ 64) = false := by simp; omega
            have hbad : 64 < key.length := by omega
            have hp := full_last (val := val) hth
            rw [if_pos (by first | exact .inl hbad | exact .inr (.inl hbad) | exact .inr (.inr hbad))] at hp
            have hEl : (fullK 128).length = 128 := by
              exact full_len 128
            have hPf : Hid (∀ W, KvS W g b (fullK 128) → Calls Try.prog 13 #[.pointer (some ⟨g, 0, none⟩), .string ⟨key.toArray⟩, .string ⟨val.toArray⟩] W fun e w' => e = .returned (.int .i64 2) ∧ KvS w' g b (fullK 128) ∧ W.grownBy w' (some b)) := Lib.hid fun W h => by
              have := put_any g b _ key val W h hk hv
              rw [hp] at this
              exact this
            have hLe : Hid (∀ W, KvS W g b (fullK 128) → Calls Try.prog 15 #[.pointer (some ⟨g, 0, none⟩)] W fun e w' => e = .returned (.int .i64 128) ∧ W = w') := Lib.hid fun W h => by
              have := kvLen_any g b _ W h
              rw [hEl] at this
              exact this.mono fun e w' h => ⟨h.1, h.2.symm⟩
            replace hKt := Lib.hid hKt.out
            clear hp hEl hth
            try replace hbad := Lib.hid hbad
            go_wp2_with (first
              | (have m0 := hb5; go_at_call 15; refine (hLe.out _ hK5.out).mono ?_; rintro e w6 ⟨rfl, rfl⟩)
              | (have m0 := hb4; go_at_call 14; refine (hL.out _).mono ?_; rintro e w5 ⟨rfl, hbn⟩; have hK5 := Lib.hid (hK4.out.below hbn); have hb5 := Lib.hid (belowT hb4.out hbn); clear hbn)
              | (go_at_call 13; refine (hPf.out _ hKt.out).mono ?_; rintro e w4 ⟨rfl, hK4, hg4⟩; replace hK4 := Lib.hid hK4; have hb4 := Lib.hid (hB.out.grown hg4 hB.out.size (fun k e => by cases e; exact hbb)); clear hg4))
            go_ret
            exact ⟨by simp, hb5.out⟩
        · have hk1i : ¬ (1 : Int) ≤ (key.length : Int) := by omega
          have hk1d : decide ((1 : Int) ≤ (key.length : Int)) = false := by simp; omega
          have hbad : key = [] := List.length_eq_zero_iff.1 (by omega)
          have hp := full_last (val := val) hth
          rw [if_pos (by first | exact .inl hbad | exact .inr (.inl hbad) | exact .inr (.inr hbad))] at hp
          have hEl : (fullK 128).length = 128 := by
            exact full_len 128
          have hPf : Hid (∀ W, KvS W g b (fullK 128) → Calls Try.prog 13 #[.pointer (some ⟨g, 0, none⟩), .string ⟨key.toArray⟩, .string ⟨val.toArray⟩] W fun e w' => e = .returned (.int .i64 2) ∧ KvS w' g b (fullK 128) ∧ W.grownBy w' (some b)) := Lib.hid fun W h => by
            have := put_any g b _ key val W h hk hv
            rw [hp] at this
            exact this
          have hLe : Hid (∀ W, KvS W g b (fullK 128) → Calls Try.prog 15 #[.pointer (some ⟨g, 0, none⟩)] W fun e w' => e = .returned (.int .i64 128) ∧ W = w') := Lib.hid fun W h => by
            have := kvLen_any g b _ W h
            rw [hEl] at this
            exact this.mono fun e w' h => ⟨h.1, h.2.symm⟩
          replace hKt := Lib.hid hKt.out
          clear hp hEl hth
          try replace hbad := Lib.hid hbad
          go_wp2_with (first
            | (have m0 := hb5; go_at_call 15; refine (hLe.out _ hK5.out).mono ?_; rintro e w6 ⟨rfl, rfl⟩)
            | (have m0 := hb4; go_at_call 14; refine (hL.out _).mono ?_; rintro e w5 ⟨rfl, hbn⟩; have hK5 := Lib.hid (hK4.out.below hbn); have hb5 := Lib.hid (belowT hb4.out hbn); clear hbn)
            | (go_at_call 13; refine (hPf.out _ hKt.out).mono ?_; rintro e w4 ⟨rfl, hK4, hg4⟩; replace hK4 := Lib.hid hK4; have hb4 := Lib.hid (hB.out.grown hg4 hB.out.size (fun k e => by cases e; exact hbb)); clear hg4))
          go_ret
          exact ⟨by simp, hb5.out⟩
end Go.Proofs.Ytfeiihmhdcnabaa
