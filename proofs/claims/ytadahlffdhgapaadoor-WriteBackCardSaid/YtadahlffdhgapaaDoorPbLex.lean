/-
  Blanks and names at a text's head, by the reference (heliographref02.Space, heliographref03.blanks, heliographref03.name). Each string shorter than the reach.
-/
import Derived.Test.YtadahlffdhgapaaDoorRfName
import Derived.Test.YtadahlffdhgapaaDoorPbPure
import Derived.Test.YtadahlffdhgapaaDoorRfEsc
namespace Go.Proofs.YtadahlffdhgapaaDoor
set_option linter.unusedVariables false
set_option linter.unusedSimpArgs false
open Go.RowKit
attribute [local go_sem] mk_get
def blC (c : UInt8) : Bool := decide (c = 32 ∨ c = 9 ∨ c = 10 ∨ c = 13)
def blTo (s : List UInt8) (k : Nat) : Prop := ∀ i (h : i < s.length), i < k → blC (s[i]'h) = true
theorem blTo_snoc {s : List UInt8} {k : Nat} (h : blTo s k) (hk : k < s.length) (hc : blC (s[k]'hk) = true) : blTo s (k + 1) := by
  intro i hi hik
  rcases Nat.lt_or_ge i k with h1 | h1
  · exact h i hi h1
  · have : i = k := by omega
    subst this
    exact hc
theorem blTo_all {s : List UInt8} (h : blTo s s.length) : s.all blC = true := by
  rw [List.all_eq_true]
  intro x hx
  obtain ⟨i, hi, rfl⟩ := List.getElem_of_mem hx
  exact h i hi hi
theorem bl_not {s : List UInt8} {k : Nat} (hk : k < s.length) (hc : blC (s[k]'hk) = false) : s.all blC = false := by
  cases h : s.all blC with
  | false => rfl
  | true =>
    rw [List.all_eq_true] at h
    rw [h _ (List.getElem_mem hk)] at hc
    cases hc
theorem blC_n (c : UInt8) : blC c = decide ((c.toNat : Int) = 32 ∨ (c.toNat : Int) = 9 ∨ (c.toNat : Int) = 10 ∨ (c.toNat : Int) = 13) := by
  unfold blC
  rw [decide_eq_decide]
  have e : ∀ k : UInt8, c = k ↔ (c.toNat : Int) = (k.toNat : Int) := fun k => by rw [← UInt8.toNat_inj]; omega
  rw [e 32, e 9, e 10, e 13]
  rfl
set_option maxHeartbeats 4000000 in
theorem refSpace_any (s : List UInt8) (w : World) (hs : s.length ≤ 140737488351232) :
    Calls Tryd.prog 44 #[.string ⟨s.toArray⟩] w fun e w' => e = .returned (.bool (s.all blC)) ∧ w = w' := by
  go_enter Tryd.func44, Tryd.ntmps44
  go_wp2
  go_loop [3] (fun i => ∃ k : Nat, k ≤ s.length ∧ i = .int .i64 k ∧ Hid (blTo s k)) (fun i => s.length - (intOf i).toNat)
  case atStart => exact ⟨0, Nat.zero_le _, rfl, fun i _ h => absurd h (Nat.not_lt_zero _)⟩
  case round =>
    obtain ⟨k, hk, rfl, HA⟩ := hrel
    by_cases hlt : k < s.length
    · have hbn := Lib.hid (blC_n s[k])
      have hsn := Lib.hid (fun h => blTo_snoc HA.out hlt h)
      have hno := Lib.hid (fun h => bl_not hlt h)
      by_cases h1 : (s[k].toNat : Int) = 32 ∨ (s[k].toNat : Int) = 9 ∨ (s[k].toNat : Int) = 10 ∨ (s[k].toNat : Int) = 13
      · have hT : blC s[k] = true := by rw [hbn.out]; simpa using h1
        have hsn2 := Lib.hid (hsn.out hT)
        clear hT hsn hno hbn
        rcases h1 with h1 | h1 | h1 | h1
        · have g1 : ((s[k].toNat : Int) != 32) = false := by simp [h1]
          clear h1
          go_wp2
          go_round
          case rel => exact ⟨k + 1, by omega, by go_num, hsn2⟩
          case measure => simp [intOf]; omega
        · have g1 : ((s[k].toNat : Int) != 32) = true := by simp [h1]
          have g2 : ((s[k].toNat : Int) != 9) = false := by simp [h1]
          clear h1
          go_wp2
          go_round
          case rel => exact ⟨k + 1, by omega, by go_num, hsn2⟩
          case measure => simp [intOf]; omega
        · have g1 : ((s[k].toNat : Int) != 32) = true := by simp [h1]
          have g2 : ((s[k].toNat : Int) != 9) = true := by simp [h1]
          have g3 : ((s[k].toNat : Int) != 10) = false := by simp [h1]
          clear h1
          go_wp2
          go_round
          case rel => exact ⟨k + 1, by omega, by go_num, hsn2⟩
          case measure => simp [intOf]; omega
        · have g1 : ((s[k].toNat : Int) != 32) = true := by simp [h1]
          have g2 : ((s[k].toNat : Int) != 9) = true := by simp [h1]
          have g3 : ((s[k].toNat : Int) != 10) = true := by simp [h1]
          have g4 : ((s[k].toNat : Int) != 13) = false := by simp [h1]
          clear h1
          go_wp2
          go_round
          case rel => exact ⟨k + 1, by omega, by go_num, hsn2⟩
          case measure => simp [intOf]; omega
      · have hF : blC s[k] = false := by rw [hbn.out]; simpa using h1
        have hno2 := Lib.hid (hno.out hF)
        have g1 : ((s[k].toNat : Int) != 32) = true := by simp; omega
        have g2 : ((s[k].toNat : Int) != 9) = true := by simp; omega
        have g3 : ((s[k].toNat : Int) != 10) = true := by simp; omega
        have g4 : ((s[k].toNat : Int) != 13) = true := by simp; omega
        clear hF hsn hno hbn h1
        go_wp2
        go_ret
        exact ⟨ret_bool hno2.out.symm, rfl⟩
    · obtain rfl : k = s.length := by omega
      have hE := Lib.hid (blTo_all HA.out)
      go_wp2
      go_ret
      exact ⟨ret_bool hE.out.symm, rfl⟩
/-- how many bytes of a kind a text begins with -/
def headN (f : UInt8 → Bool) (s : List UInt8) : Nat := (s.takeWhile f).length
def headTo (f : UInt8 → Bool) (s : List UInt8) (k : Nat) : Prop := ∀ i (h : i < s.length), i < k → f (s[i]'h) = true
theorem head_end {f : UInt8 → Bool} : ∀ {s : List UInt8} {k : Nat}, k ≤ s.length → headTo f s k → (∀ h : k < s.length, f (s[k]'h) = false) → headN f s = k
  | [], k, hk, _, _ => by
    have : k = 0 := by simpa using hk
    subst this; rfl
  | c :: s, 0, _, _, h => by
    have := h (by simp)
    simp only [List.getElem_cons_zero] at this
    simp [headN, this]
  | c :: s, k + 1, hk, ht, h => by
    have h0 := ht 0 (by simp) (by omega)
    simp only [List.getElem_cons_zero] at h0
    have ih := head_end (f := f) (s := s) (k := k) (by simpa using hk) (fun i hi hik => by have := ht (i + 1) (by simpa using hi) (by omega); simpa using this) (fun hk' => by have := h (by simpa using hk'); simpa using this)
    unfold headN at ih ⊢
    rw [List.takeWhile_cons, if_pos h0, List.length_cons, ih]
theorem headTo_snoc {f : UInt8 → Bool} {s : List UInt8} {k : Nat} (h : headTo f s k) (hk : k < s.length) (hc : f (s[k]'hk) = true) : headTo f s (k + 1) := by
  intro i hi hik
  rcases Nat.lt_or_ge i k with h1 | h1
  · exact h i hi h1
  · have : i = k := by omega
    subst this
    exact hc
set_option maxHeartbeats 4000000 in
theorem blanks_any (s : List UInt8) (w : World) (hs : s.length ≤ 140737488351232) :
    Calls Tryd.prog 45 #[.string ⟨s.toArray⟩] w fun e w' => e = .returned (.int .i64 (headN blC s : Nat)) ∧ w = w' := by
  go_enter Tryd.func45, Tryd.ntmps45
  go_wp2
  go_loop [3] (fun i => ∃ k : Nat, k ≤ s.length ∧ i = .int .i64 k ∧ Hid (headTo blC s k)) (fun i => s.length - (intOf i).toNat)
  case atStart => exact ⟨0, Nat.zero_le _, rfl, fun i _ h => absurd h (Nat.not_lt_zero _)⟩
  case round =>
    obtain ⟨k, hk, rfl, HA⟩ := hrel
    by_cases hlt : k < s.length
    · have hxt := ext1 s k hlt
      have hsn := Lib.hid (fun h => headTo_snoc HA.out hlt h)
      have hen := Lib.hid (fun h : blC (s[k]'hlt) = false => head_end (f := blC) hk HA.out (fun _ => h))
      have hii : (k : Int) < s.length := by omega
      have hii1 : (k : Int) + 1 ≤ s.length := by omega
      have h0 : (0 : Int) ≤ (k : Int) := by omega
      have h01 : (k : Int) ≤ (k : Int) + 1 := by omega
      have h02 : (0 : Int) ≤ (k : Int) + 1 := by omega
      have hn1 : ((k : Int) + 1).toNat = k + 1 := by omega
      have hC := fun W => refSpace_any [s[k]] W (by simp)
      have eA : [s[k]].all blC = blC s[k] := by simp
      rw [eA] at hC
      replace hC := Lib.hid hC
      clear eA
      generalize s[k] = c at hxt hsn hen hC
      cases hb : blC c
      · have hen2 := Lib.hid (hen.out hb)
        rw [hb] at hC
        clear hb hen hsn
        go_wp2_with (go_at_call 44; refine (hC.out _).mono ?_; rintro e w1 ⟨rfl, rfl⟩)
        go_ret
        exact ⟨ret_int (by rw [hen2.out]), rfl⟩
      · have hsn2 := Lib.hid (hsn.out hb)
        rw [hb] at hC
        clear hb hen hsn
        go_wp2_with (go_at_call 44; refine (hC.out _).mono ?_; rintro e w1 ⟨rfl, rfl⟩)
        go_round
        case rel => exact ⟨k + 1, by omega, by go_num, hsn2⟩
        case measure => simp [intOf]; omega
    · obtain rfl : k = s.length := by omega
      have hE := Lib.hid (head_end (f := blC) (Nat.le_refl _) HA.out (fun h => absurd h (by omega)))
      go_wp2
      go_ret
      exact ⟨ret_int (by rw [hE.out]), rfl⟩
theorem nameP_a (c : UInt8) : nameP [97, c] = nameC c := by
  unfold nameP nameC
  have e : (decide (nameTo [97, c] [97, c].length)) = nameAt 1 c.toNat := by
    rw [Bool.eq_iff_iff, decide_eq_true_eq]
    constructor
    · intro h; exact h 1 (by simp) (by simp)
    · intro h i hi _
      obtain rfl | rfl : i = 0 ∨ i = 1 := by simp at hi; omega
      · exact (by decide : nameAt 0 (97 : UInt8).toNat = true)
      · exact h
  rw [e]
  simp
theorem cat_a (c : UInt8) : ByteArray.mk #[97] ++ ByteArray.mk #[c] = ByteArray.mk #[97, c] := by
  apply ByteArray.ext
  simp
set_option maxHeartbeats 4000000 in
theorem refHead_any (s : List UInt8) (w : World) (hs : s.length ≤ 140737488351232) :
    Calls Tryd.prog 50 #[.string ⟨s.toArray⟩] w fun e w' => e = .returned (.int .i64 (headN nameC s : Nat)) ∧ w = w' := by
  go_enter Tryd.func50, Tryd.ntmps50
  go_wp2
  go_loop [3] (fun i => ∃ k : Nat, k ≤ s.length ∧ i = .int .i64 k ∧ Hid (headTo nameC s k)) (fun i => s.length - (intOf i).toNat)
  case atStart => exact ⟨0, Nat.zero_le _, rfl, fun i _ h => absurd h (Nat.not_lt_zero _)⟩
  case round =>
    obtain ⟨k, hk, rfl, HA⟩ := hrel
    by_cases hlt : k < s.length
    · have hxt := ext1 s k hlt
      have hca := cat_a s[k]
      have hsn := Lib.hid (fun h => headTo_snoc HA.out hlt h)
      have hen := Lib.hid (fun h : nameC (s[k]'hlt) = false => head_end (f := nameC) hk HA.out (fun _ => h))
      have hii : (k : Int) < s.length := by omega
      have hii1 : (k : Int) + 1 ≤ s.length := by omega
      have h0 : (0 : Int) ≤ (k : Int) := by omega
      have h01 : (k : Int) ≤ (k : Int) + 1 := by omega
      have h02 : (0 : Int) ≤ (k : Int) + 1 := by omega
      have hn1 : ((k : Int) + 1).toNat = k + 1 := by omega
      have hC := fun W => refName_any [97, s[k]] W (by simp)
      rw [nameP_a] at hC
      replace hC := Lib.hid hC
      generalize s[k] = c at hxt hsn hen hC hca
      cases hb : nameC c
      · have hen2 := Lib.hid (hen.out hb)
        rw [hb] at hC
        clear hb hen hsn
        go_wp2_with (go_at_call 35; refine (hC.out _).mono ?_; rintro e w1 ⟨rfl, rfl⟩)
        go_ret
        exact ⟨ret_int (by rw [hen2.out]), rfl⟩
      · have hsn2 := Lib.hid (hsn.out hb)
        rw [hb] at hC
        clear hb hen hsn
        go_wp2_with (go_at_call 35; refine (hC.out _).mono ?_; rintro e w1 ⟨rfl, rfl⟩)
        go_round
        case rel => exact ⟨k + 1, by omega, by go_num, hsn2⟩
        case measure => simp [intOf]; omega
    · obtain rfl : k = s.length := by omega
      have hE := Lib.hid (head_end (f := nameC) (Nat.le_refl _) HA.out (fun h => absurd h (by omega)))
      go_wp2
      go_ret
      exact ⟨ret_int (by rw [hE.out]), rfl⟩
end Go.Proofs.YtadahlffdhgapaaDoor
