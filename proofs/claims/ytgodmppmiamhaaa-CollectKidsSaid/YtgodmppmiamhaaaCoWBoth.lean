/-
  The walk of CollectBoth. Printed by wip/tools/gencollect2.py.
-/
import Derived.Test.YtgodmppmiamhaaaCoWLooks
namespace Go.Proofs.Ytgodmppmiamhaaa
set_option linter.unusedVariables false
set_option linter.unusedSimpArgs false
open Go.RowKit Go.MapKept Go.Shelf
theorem sts_cell {W : World} {a : Option Addr} {n c : Nat} {l : List Txt} (h : StS W (.slice a n c) l) {k : Nat} (hk : k < l.length) : ∃ b o, a = some ⟨b, o, none⟩ ∧ b < W.heap.size ∧ W.cell? ⟨b, o + k, none⟩ = some (.string ⟨(l[k]'hk).toArray⟩) := by
  obtain ⟨p, cp, he, h1, h2, h3⟩ := h
  injection he with e1 e2 e3
  subst e1
  obtain ⟨b, o, rfl, hb, hc⟩ := h3 (by omega)
  exact ⟨b, o, rfl, hb, hc k hk⟩
theorem cont_snoc {l : List Txt} {k : Nat} (h : k < l.length) (c : Txt) : (l.take (k + 1)).contains c = ((l.take k).contains c || l[k]'h == c) := by
  rw [List.take_add_one, List.getElem?_eq_getElem h, Bool.eq_iff_iff]
  simp only [Option.toList_some, List.contains_iff_mem, List.mem_append, List.mem_singleton, Bool.or_eq_true, beq_iff_eq]
  constructor
  · rintro (h | h)
    · exact .inl h
    · exact .inr h.symm
  · rintro (h | h)
    · exact .inl h
    · exact .inr h.symm
set_option maxHeartbeats 2000000 in
theorem both_of (v : Value) (E F : Ats) (a b : Txt) (w : World) (hA : AtS w v E) (hF : F = E.take 66) :
    Calls Try.prog 4 #[v, .string ⟨a.toArray⟩, .string ⟨b.toArray⟩] w fun e w' => e = .returned (.bool true) ∧ Below w.heap.size w w' := by
  have hFl : F.length ≤ 66 := by rw [hF, List.length_take]; omega
  have hFew := few_any v E w hA
  rw [← hF] at hFew
  have hb0 := Lib.hid (Below.refl w.heap.size w)
  have hLive := Lib.hid live_any
  have hU := fun (v : Value) W1 (h : AtS W1 v F) => above_any v F a W1 h (by omega)
  have hB := fun (v : Value) W1 (h : AtS W1 v F) => below_any v F b W1 h (by omega)
  have hbo := both F a b
  have hns := not_self F a
  have hlu := Nat.le_trans (Nat.le_trans (upsE_len F a) hFl) (show 66 ≤ 1000 by omega)
  have hlb := Nat.le_trans (Nat.le_trans (belowE_len F b) hFl) (show 66 ≤ 1000 by omega)
  obtain ⟨va, vn, vc, rfl⟩ : ∃ a n c, v = .slice a n c := by obtain ⟨a, c, h, -⟩ := hA; exact ⟨a, _, c, h⟩
  generalize upsE F a = u at hU hlu hbo hns
  generalize belowE F b = d at hB hlb hbo
  clear hA hF
  obtain ⟨N, hNe⟩ : ∃ N, u.length = N := ⟨_, rfl⟩
  obtain ⟨M, hMe⟩ : ∃ N, d.length = N := ⟨_, rfl⟩
  rw [hNe] at hlu
  rw [hMe] at hlb
  replace hNe := Lib.hid hNe
  replace hMe := Lib.hid hMe
  replace hFew := Lib.hid hFew
  replace hU := Lib.hid hU
  replace hB := Lib.hid hB
  replace hbo := Lib.hid hbo
  replace hns := Lib.hid hns
  go_enter Try.func4, Try.ntmps4
  go_wp2_with (first
    | (have m0 := hb2; go_at_call 16; refine (hB.out _ _ hA1.out).mono ?_; rintro e w3 ⟨sv2, rfl, hS2, hbn⟩; obtain ⟨a2, c2, rfl⟩ : ∃ a c', sv2 = .slice a M c' := (by obtain ⟨a, c, h, -⟩ := hS2; exact ⟨a, c, hMe.out ▸ h⟩); replace hS2 := Lib.hid hS2; replace hA1 := Lib.hid (hA1.out.below hbn); replace hS1 := Lib.hid (hS1.out.below hbn); have hb3 := Lib.hid (belowT hb2.out hbn); clear hbn)
    | (have m0 := hb1; go_at_call 15; refine (hU.out _ _ hA1.out).mono ?_; rintro e w2 ⟨sv1, rfl, hS1, hbn⟩; obtain ⟨a1, c1, rfl⟩ : ∃ a c', sv1 = .slice a N c' := (by obtain ⟨a, c, h, -⟩ := hS1; exact ⟨a, c, hNe.out ▸ h⟩); replace hS1 := Lib.hid hS1; replace hA1 := Lib.hid (hA1.out.below hbn); have hb2 := Lib.hid (belowT hb1.out hbn); clear hbn)
    | (have m0 := hb0; go_at_call 14; refine (hFew.out).mono ?_; rintro e w1 ⟨sv0, rfl, hA1, rfl⟩; obtain ⟨a0, c0, rfl⟩ : ∃ a c', sv0 = .slice a F.length c' := (by obtain ⟨a, c, h, -⟩ := hA1; exact ⟨a, c, h⟩); replace hA1 := Lib.hid hA1; have hb1 := hb0))
  go_loop [7, 11] (fun s7 s11 => ∃ (k : Nat) (r : Bool), k ≤ N ∧ s11 = .int .i64 k ∧ s7 = .bool r ∧ Hid (r = (u.take k).contains b)) (fun _ s11 => N - (intOf s11).toNat)
  case atStart => exact ⟨0, false, Nat.zero_le _, rfl, rfl, Lib.hid rfl⟩
  case round =>
    obtain ⟨k, rA, hk, rfl, rfl, hr⟩ := hrel
    by_cases hlt : k < N
    · have hk3 : k < u.length := by have := hNe.out; omega
      obtain ⟨bb, o, rfl, hbb, d0⟩ := sts_cell hS1.out hk3
      have hsn := cont_snoc hk3 b
      rw [← hr.out] at hsn
      generalize hE : u[k] = x at d0 hsn
      clear hE
      have hki : (k : Int) < (N : Int) := by omega
      have hk0 : (0 : Int) ≤ (k : Int) := by omega
      cases rA with
      | true =>
        replace hsn := Lib.hid hsn
        go_wp2
        go_round
        case rel => exact ⟨k + 1, true, by omega, by simp, rfl, Lib.hid (by rw [hsn.out]; rfl)⟩
        case measure => simp [intOf]; omega
      | false =>
        by_cases hx : x = b
        · have hsn2 := Lib.hid (show (u.take (k + 1)).contains b = true by rw [hsn, hx]; simp)
          clear hsn
          subst hx
          go_wp2
          go_round
          case rel => exact ⟨k + 1, true, by omega, by simp, by simp, Lib.hid hsn2.out.symm⟩
          case measure => simp [intOf]; omega
        · have hxb : (x == b) = false := by simpa using hx
          have hsn2 := Lib.hid (show (u.take (k + 1)).contains b = false by rw [hsn, hxb]; rfl)
          clear hsn
          replace hx := Lib.hid hx
          go_wp2
          go_round
          case rel => exact ⟨k + 1, false, by omega, by simp, by simp [hxb], Lib.hid hsn2.out.symm⟩
          case measure => simp [intOf]; omega
    · have hru := hr.out
      rw [List.take_of_length_le (by have := hNe.out; omega)] at hru
      replace hru := Lib.hid hru
      have hki : ¬ (k : Int) < (N : Int) := by omega
      clear hr

      go_wp2
      go_loop [8, 12] (fun s8 s12 => ∃ (k : Nat) (r : Bool), k ≤ M ∧ s12 = .int .i64 k ∧ s8 = .bool r ∧ Hid (r = (d.take k).contains a)) (fun _ s12 => M - (intOf s12).toNat)
      case atStart => exact ⟨0, false, Nat.zero_le _, rfl, rfl, Lib.hid rfl⟩
      case round =>
        obtain ⟨k, r, hk, rfl, rfl, hr⟩ := hrel
        by_cases hlt : k < M
        · have hk3 : k < d.length := by have := hMe.out; omega
          obtain ⟨bb, o, rfl, hbb, d0⟩ := sts_cell hS2.out hk3
          have hsn := cont_snoc hk3 a
          rw [← hr.out] at hsn
          generalize hE : d[k] = x at d0 hsn
          clear hE
          have hki : (k : Int) < (M : Int) := by omega
          have hk0 : (0 : Int) ≤ (k : Int) := by omega
          cases r with
          | true =>
            replace hsn := Lib.hid hsn
            go_wp2
            go_round
            case rel => exact ⟨k + 1, true, by omega, by simp, rfl, Lib.hid (by rw [hsn.out]; rfl)⟩
            case measure => simp [intOf]; omega
          | false =>
            by_cases hx : x = a
            · have hsn2 := Lib.hid (show (d.take (k + 1)).contains a = true by rw [hsn, hx]; simp)
              clear hsn
              subst hx
              go_wp2
              go_round
              case rel => exact ⟨k + 1, true, by omega, by simp, by simp, Lib.hid hsn2.out.symm⟩
              case measure => simp [intOf]; omega
            · have hxb : (x == a) = false := by simpa using hx
              have hsn2 := Lib.hid (show (d.take (k + 1)).contains a = false by rw [hsn, hxb]; rfl)
              clear hsn
              replace hx := Lib.hid hx
              go_wp2
              go_round
              case rel => exact ⟨k + 1, false, by omega, by simp, by simp [hxb], Lib.hid hsn2.out.symm⟩
              case measure => simp [intOf]; omega
        · have hrd := hr.out
          rw [List.take_of_length_le (by have := hMe.out; omega)] at hrd
          replace hrd := Lib.hid hrd
          have hki : ¬ (k : Int) < (M : Int) := by omega
          clear hr

          obtain rfl : rA = r := hru.out.trans (hbo.out.trans hrd.out.symm)
          cases rA with
          | true =>
            have hab : ¬ a = b := fun e => by
              have := hru.out
              rw [← e, hns.out] at this
              cases this
            have hab1 : (a == b) = false := by simpa using hab
            replace hab := Lib.hid hab
            go_wp2_with (go_at_call 13; refine (hLive.out _).mono ?_; rintro e w9 ⟨rfl, hbn⟩; have hb9 := Lib.hid (belowT hb3.out hbn); clear hbn)
            go_ret
            exact ⟨by simp [hab1], hb9.out⟩
          | false =>
            go_wp2_with (go_at_call 13; refine (hLive.out _).mono ?_; rintro e w9 ⟨rfl, hbn⟩; have hb9 := Lib.hid (belowT hb3.out hbn); clear hbn)
            go_ret
            exact ⟨by simp, hb9.out⟩
theorem collectBoth_walk (v : Value) (E : Ats) (a b : Txt) (w : World) (hA : AtS w v E) :
    Calls Try.prog 4 #[v, .string ⟨a.toArray⟩, .string ⟨b.toArray⟩] w fun e w' => e = .returned (.bool true) ∧ Below w.heap.size w w' := both_of v E _ a b w hA rfl
end Go.Proofs.Ytgodmppmiamhaaa
