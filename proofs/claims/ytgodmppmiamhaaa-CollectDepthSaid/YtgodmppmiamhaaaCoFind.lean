/-
  The place of a child's edge (find), by the program. Condition: at most 1000 edges.
-/
import Derived.Test.YtgodmppmiamhaaaCoPure3
import Derived.Test.YtgodmppmiamhaaaShelf
import Derived.Deep.LoopGhost
import Derived.Shelf.Abstract
import Derived.LoopTactic
namespace Go.Proofs.Ytgodmppmiamhaaa
set_option linter.unusedVariables false
set_option linter.unusedSimpArgs false
open Go.RowKit Go.MapKept Go.Shelf
def cmpT (a b : Txt) : Int := Lib.compareBytes a b
theorem cmp_lt : ∀ a b : Txt, cmpT a b < 0 ↔ a < b
  | [], [] => by simp [cmpT, Lib.compareBytes]
  | [], b :: y => by simp [cmpT, Lib.compareBytes, List.nil_lt_cons]
  | a :: x, [] => by simp [cmpT, Lib.compareBytes, List.not_lt_nil]
  | a :: x, b :: y => by
    rw [tl_cons]
    have ih := cmp_lt x y
    unfold cmpT at ih ⊢
    unfold Lib.compareBytes
    by_cases h : a < b
    · simp [h]
    · rw [if_neg h]
      by_cases h2 : b < a
      · rw [if_pos h2]
        constructor
        · intro h3; omega
        · rintro (h3 | ⟨rfl, -⟩)
          · exact absurd h3 h
          · exact absurd h2 (UInt8.lt_irrefl _)
      · rw [if_neg h2, ih]
        have e : a = b := UInt8.toNat_inj.1 (by rw [UInt8.lt_iff_toNat_lt] at h h2; omega)
        constructor
        · intro h3; exact .inr ⟨e, h3⟩
        · rintro (h3 | ⟨-, h3⟩)
          · exact absurd h3 h
          · exact h3
theorem cmp_eq0 : ∀ a b : Txt, cmpT a b = 0 ↔ a = b
  | [], [] => by simp [cmpT, Lib.compareBytes]
  | [], b :: y => by simp [cmpT, Lib.compareBytes]
  | a :: x, [] => by simp [cmpT, Lib.compareBytes]
  | a :: x, b :: y => by
    have ih := cmp_eq0 x y
    unfold cmpT at ih ⊢
    unfold Lib.compareBytes
    by_cases h : a < b
    · rw [if_pos h]
      constructor
      · intro h3; omega
      · intro h3; injection h3 with h3; subst h3; exact absurd h (UInt8.lt_irrefl _)
    · rw [if_neg h]
      by_cases h2 : b < a
      · rw [if_pos h2]
        constructor
        · intro h3; omega
        · intro h3; injection h3 with h3; subst h3; exact absurd h2 (UInt8.lt_irrefl _)
      · rw [if_neg h2, ih]
        have e : a = b := UInt8.toNat_inj.1 (by rw [UInt8.lt_iff_toNat_lt] at h h2; omega)
        simp [e]
theorem cmp1_any (a p c : Txt) (w : World) :
    Calls Try.prog 48 #[.agg #[.string ⟨a.toArray⟩, .string ⟨p.toArray⟩], .string ⟨c.toArray⟩] w fun e w' => e = .returned (.int .i64 (cmpT a c)) ∧ Below w.heap.size w w' := by
  go_enter Try.func48, Try.ntmps48
  go_wp2_with (go_at_call 49; refine (Try.strings_Compare _ _ _).mono ?_; rintro e w1 ⟨rfl, rfl⟩)
  go_ret
  exact ⟨rfl, below1 _ _⟩
theorem pos_end {E : Ats} {c : Txt} {i : Nat} (hi : i ≤ E.length) (h1 : ∀ t (h : t < E.length), t < i → (E[t]'h).1 < c) (h2 : ∀ t (h : t < E.length), i ≤ t → ¬ (E[t]'h).1 < c) : PosE E c i := ⟨hi, h1, h2⟩
theorem sort_at {E : Ats} (hs : sortE E) {a b : Nat} (ha : a < b) (hb : b < E.length) : (E[a]'(by omega)).1 < (E[b]'hb).1 := (List.pairwise_iff_getElem.1 hs) a b (by omega) hb ha
set_option maxHeartbeats 2000000 in
theorem bsearch_any (v : Value) (E : Ats) (c : Txt) (w : World) (h : AtS w v E) (hl : E.length ≤ 1000) :
    Calls Try.prog 47 #[v, .string ⟨c.toArray⟩, .func (.func 48) #[] #[]] w fun e w' => ∃ i : Nat, e = .returned (.tuple #[.int .i64 i, .bool (hitE E c i)]) ∧ i ≤ E.length ∧ (sortE E → PosE E c i) ∧ Below w.heap.size w w' := by
  have eg := enters_of (P := Try.prog) Try.func48 (by kernel_rfl) rfl
  obtain ⟨ptr, cap, rfl, hc1, hc2, hat⟩ := h
  obtain ⟨N, hN⟩ : ∃ N, E.length = N := ⟨_, rfl⟩
  have hN1 : N ≤ 1000 := by omega
  have hNi : (N : Int) ≤ 1000 := by omega
  rw [hN]
  replace hN := Lib.hid hN
  go_enter Try.func47, Try.ntmps47
  go_wp2
  go_loopg [9, 10] N (fun kx s9 s10 wr => ∃ lo hi : Nat, s9 = .int .i64 lo ∧ s10 = .int .i64 hi ∧ lo ≤ hi ∧ hi ≤ N ∧ hi - lo ≤ kx ∧ Hid (Below w.heap.size w wr) ∧ Hid (sortE E → (∀ t (h : t < E.length), t < lo → (E[t]'h).1 < c) ∧ (∀ t (h : t < E.length), hi ≤ t → ¬ (E[t]'h).1 < c)))
  case atStart => exact ⟨0, N, rfl, rfl, Nat.zero_le _, Nat.le_refl _, by omega, Lib.hid (Below.refl _ _), Lib.hid (fun _ => ⟨fun t _ ht => absurd ht (Nat.not_lt_zero _), fun t h1 h2 => by have := hN.out; omega⟩)⟩
  case round =>
    obtain ⟨lo, hi, rfl, rfl, hlh, hin, hg, BW, A⟩ := hrel
    by_cases hlt : lo < hi
    · obtain ⟨mid, hmid⟩ : ∃ mid, (lo + hi) / 2 = mid := ⟨_, rfl⟩
      have hmI : ((lo : Int) + (hi : Int)) / 2 = (mid : Int) := by omega
      have hm1 : lo ≤ mid := by omega
      have hm2 : mid < hi := by omega
      have hm3 : mid < E.length := by have := hN.out; omega
      obtain ⟨b, o, rfl, hb, hcc⟩ := hat (by omega)
      obtain ⟨d0, d1⟩ := hcc mid hm3
      have kc := fun (j : Nat) => BW.out.cell (p := ⟨b, j, none⟩) hb
      replace d0 := (kc _).trans d0
      replace d1 := (kc _).trans d1
      clear kc hcc hat
      generalize hE : E[mid] = x at d0 d1
      obtain ⟨ch, pa⟩ := x
      replace hE := Lib.hid hE
      simp only at d0 d1
      have hm4 : mid < N := by omega
      have hm5 : (mid : Int) < (N : Int) := by omega
      have hm6 : (0 : Int) ≤ (mid : Int) := by omega
      have hlI : (lo : Int) < (hi : Int) := by omega
      have hbw : b < wr.heap.size := Nat.lt_of_lt_of_le hb BW.out.size
      by_cases hx : ch < c
      · have hneg : cmpT ch c < 0 := (cmp_lt ch c).2 hx
        replace hx := Lib.hid hx
        go_wp2_with (go_at_call 48; refine (cmp1_any _ _ _ _).mono ?_; rintro e w1 ⟨rfl, hb1⟩; replace hb1 := Lib.hid hb1)
        go_roundg (hi - (mid + 1))
        case measure => omega
        case rel =>
          refine ⟨mid + 1, hi, by simp, rfl, by omega, hin, Nat.le_refl _, Lib.hid (belowT BW.out hb1.out), Lib.hid (fun hs => ⟨fun t h ht => ?_, (A.out hs).2⟩)⟩
          rcases Nat.lt_or_ge t mid with h' | h'
          · have := sort_at hs h' hm3
            rw [hE.out] at this
            exact tl_trans this hx.out
          · obtain rfl : t = mid := by omega
            rw [hE.out]; exact hx.out
      · have hneg : ¬ cmpT ch c < 0 := fun h => hx ((cmp_lt ch c).1 h)
        replace hx := Lib.hid hx
        go_wp2_with (go_at_call 48; refine (cmp1_any _ _ _ _).mono ?_; rintro e w1 ⟨rfl, hb1⟩; replace hb1 := Lib.hid hb1)
        go_roundg (mid - lo)
        case measure => omega
        case rel =>
          refine ⟨lo, mid, rfl, by simp, hm1, by omega, Nat.le_refl _, Lib.hid (belowT BW.out hb1.out), Lib.hid (fun hs => ⟨(A.out hs).1, fun t h ht hlt' => ?_⟩)⟩
          rcases Nat.lt_or_ge mid t with h' | h'
          · have := sort_at hs h' h
            rw [hE.out] at this
            exact hx.out (tl_trans this hlt')
          · obtain rfl : t = mid := by omega
            rw [hE.out] at hlt'
            exact hx.out hlt'
    · obtain rfl : lo = hi := by omega
      have hlI : ¬ (lo : Int) < (lo : Int) := by omega
      by_cases hlN : lo < N
      · have hm3 : lo < E.length := by have := hN.out; omega
        obtain ⟨b, o, rfl, hb, hcc⟩ := hat (by omega)
        obtain ⟨d0, d1⟩ := hcc lo hm3
        have kc := fun (j : Nat) => BW.out.cell (p := ⟨b, j, none⟩) hb
        replace d0 := (kc _).trans d0
        replace d1 := (kc _).trans d1
        clear kc hcc hat
        have hh : hitE E c lo = ((E[lo]'hm3).1 == c) := by unfold hitE; rw [List.getElem?_eq_getElem hm3]
        generalize E[lo] = x at d0 d1 hh
        obtain ⟨ch, pa⟩ := x
        simp only at d0 d1 hh
        replace hh := Lib.hid hh
        have hm5 : (lo : Int) < (N : Int) := by omega
        have hm6 : (0 : Int) ≤ (lo : Int) := by omega
        have hbw : b < wr.heap.size := Nat.lt_of_lt_of_le hb BW.out.size
        have hcz : (cmpT ch c == 0) = (ch == c) := by rw [Bool.eq_iff_iff, beq_iff_eq, beq_iff_eq]; exact cmp_eq0 ch c
        go_wp2_with (go_at_call 48; refine (cmp1_any _ _ _ _).mono ?_; rintro e w1 ⟨rfl, hb1⟩; replace hb1 := Lib.hid hb1)
        all_goals go_ret2
        all_goals refine ⟨lo, ?_, by have := hN.out; omega, fun hs => pos_end (by have := hN.out; omega) (A.out hs).1 (A.out hs).2, belowT BW.out hb1.out⟩
        all_goals rw [hh.out]
        all_goals first | rfl | (rw [← hcz]; rfl)
      · have hh : Hid (hitE E c lo = false) := Lib.hid (by unfold hitE; rw [List.getElem?_eq_none (by have := hN.out; omega)])
        have hm5 : ¬ (lo : Int) < (N : Int) := by omega
        go_wp2
        go_ret2
        exact ⟨lo, by rw [hh.out]; rfl, by have := hN.out; omega, fun hs => pos_end (by have := hN.out; omega) (A.out hs).1 (A.out hs).2, BW.out⟩
theorem find_any (v : Value) (E : Ats) (c : Txt) (w : World) (h : AtS w v E) (hl : E.length ≤ 1000) :
    Calls Try.prog 32 #[v, .string ⟨c.toArray⟩] w fun e w' => ∃ i : Nat, e = .returned (.tuple #[.int .i64 i, .bool (hitE E c i)]) ∧ i ≤ E.length ∧ (sortE E → PosE E c i) ∧ Below w.heap.size w w' := by
  have hb := Lib.hid (bsearch_any v E c w h hl)
  obtain ⟨p, cap, rfl, -⟩ := h
  go_enter Try.func32, Try.ntmps32
  go_wp2_with (go_at_call 47; refine hb.out.mono ?_; rintro e w1 ⟨i, rfl, h1, h2, h3⟩; replace h2 := Lib.hid h2; replace h3 := Lib.hid h3)
  go_ret2
  exact ⟨i, rfl, h1, h2.out, h3.out⟩
end Go.Proofs.Ytgodmppmiamhaaa
