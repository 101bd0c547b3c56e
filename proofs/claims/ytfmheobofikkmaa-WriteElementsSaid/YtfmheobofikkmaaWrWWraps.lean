/-
  The walk of WriteWraps.
-/
import Derived.Test.YtfmheobofikkmaaWrLive
import Derived.Test.YtfmheobofikkmaaWrWrapPure
import Derived.Test.YtfmheobofikkmaaWrWJoins
import Derived.Deep.LoopGhost
namespace Go.Proofs.Ytfmheobofikkmaa
set_option linter.unusedVariables false
set_option linter.unusedSimpArgs false
open Go.RowKit Go.MapKept
theorem tk_two (w : World) (b : Nat) (hb : b < w.heap.size) (x y : Tk) (v1 v2 : Value) (h0 : w.cell? ⟨b, 0, none⟩ = some (.int .u8 x.k)) (h1 : w.cell? ⟨b, 1, none⟩ = some (.string ⟨x.n.toArray⟩)) (h2 : w.cell? ⟨b, 2, none⟩ = some v1) (h3 : w.cell? ⟨b, 3, none⟩ = some (.string ⟨x.t.toArray⟩)) (hA : AtS w v1 x.as)
    (g0 : w.cell? ⟨b, 4, none⟩ = some (.int .u8 y.k)) (g1 : w.cell? ⟨b, 5, none⟩ = some (.string ⟨y.n.toArray⟩)) (g2 : w.cell? ⟨b, 6, none⟩ = some v2) (g3 : w.cell? ⟨b, 7, none⟩ = some (.string ⟨y.t.toArray⟩)) (gA : AtS w v2 y.as) : TkS w (.slice (some ⟨b, 0, none⟩) 2 2) [x, y] :=
  ⟨_, 2, rfl, Nat.le_refl _, by unfold maxLen; decide, fun _ => ⟨b, 0, rfl, hb, fun i hi => by
    have hi' : i < 2 := by simpa using hi
    match i, hi' with
    | 0, _ => exact ⟨v1, h0, h1, h2, h3, hA⟩
    | 1, _ => exact ⟨v2, g0, g1, g2, g3, gA⟩⟩⟩
theorem wrap_near (n : Int) (h0 : -1000 ≤ n) (h1 : n ≤ 1000) : IntKind.i64.wrap n = n := by
  simp [IntKind.wrap, IntKind.signed, IntKind.bits]
  omega
theorem mostK_succ (l : List Tk) (k : Nat) : mostK l (k + 1) = if depK l (k + 1) > mostK l k then depK l (k + 1) else mostK l k := rfl
theorem depK_succ (l : List Tk) (k : Nat) (h : k < l.length) : depK l (k + 1) = if (l[k]'h).k = 1 then depK l k + 1 else if (l[k]'h).k = 2 then depK l k - 1 else depK l k := by
  rw [depK, List.getElem?_eq_getElem h]
theorem TksB.take {l : List Tk} {B : Nat} (h : TksB B l) (n : Nat) : TksB B (l.take n) := ⟨by
  have := h.1
  rw [List.length_take]
  have : min n l.length * 64 ≤ l.length * 64 := Nat.mul_le_mul_right _ (Nat.min_le_right _ _)
  omega, fun tk ht => h.2 tk (List.mem_of_mem_take ht)⟩
theorem elem_small {name : List UInt8} {l : List Tk} (hn : name.length ≤ 140737488351232) (h : ∀ tk ∈ l, tk.small) : ∀ tk ∈ elemL name [] l, tk.small := fun tk ht => by
  simp only [elemL, List.mem_cons, List.mem_append, List.mem_nil_iff, or_false] at ht
  rcases ht with rfl | h' | rfl
  · exact ⟨hn, by simp, by simp, fun _ h => by cases h⟩
  · exact h tk h'
  · exact ⟨hn, by simp, by simp, fun _ h => by cases h⟩
theorem few_fix (v : Value) (tks : List Tk) (w : World) (hT : TkS w v tks) : ∃ v', (Calls Try.prog 8 #[v] w fun e w' => e = .returned v' ∧ w' = w) ∧ TkS w v' (tks.take 70) := by
  obtain ⟨ptr, cap, rfl, hcap, hcapm, htk⟩ := hT
  obtain ⟨i0, hi, hz0, hz1, hz2⟩ := info_parts infoT
  by_cases h70 : 70 < tks.length
  · obtain ⟨b, o, rfl, hb, hc⟩ := htk (by omega)
    have hmx : (tks.length : Int) ≤ 9223372036854775807 := by unfold maxLen at hcapm; omega
    refine ⟨.slice (some ⟨b, o, none⟩) 70 cap, ?_, ⟨some ⟨b, o, none⟩, cap, ?_, ?_, hcapm, fun _ => ⟨b, o, rfl, hb, fun i hi => ?_⟩⟩⟩
    · go_enter Try.func8, Try.ntmps8
      go_wp2
      go_ret
      exact ⟨rfl, rfl⟩
    · rw [List.length_take, show min 70 tks.length = 70 by omega]
    · rw [List.length_take]; omega
    · rw [List.length_take] at hi
      rw [List.getElem_take]
      exact hc i (by omega)
  · have e : tks.take 70 = tks := List.take_of_length_le (by omega)
    rw [e]
    refine ⟨_, ?_, ⟨ptr, cap, rfl, hcap, hcapm, htk⟩⟩
    go_enter Try.func8, Try.ntmps8
    go_wp2
    go_ret
    exact ⟨rfl, rfl⟩
set_option maxHeartbeats 8000000 in
theorem writeWraps_of (name : List UInt8) (v2 : Value) (ins : List Tk) (w : World) (hn : name.length ≤ 140737488351232) (h2 : TkS w v2 ins) (hi : TksB 140737488351232 ins) (h70 : ins.length ≤ 70) (v0 : Value) (hF : Calls Try.prog 8 #[v0] w fun e w' => e = .returned v2 ∧ w' = w) :
    Calls Try.prog 3 #[.string ⟨name.toArray⟩, v0] w fun e w' => e = .returned (.bool true) ∧ Below w.heap.size w w' := by
  have sI := hi.small
  have hat : ∀ tk ∈ ins, tk.as.length * 32 ≤ 140737488351232 := fun tk ht => (hi.2 tk ht).2.2.1
  have hE := element_any name (.slice none 0 0) v2 [] ins w (at_nil _ 0 (Nat.zero_le _)) (by simp) h2 (by omega) hat
  have hlen : (elemL name [] ins).length = ins.length + 2 := by simp [elemL]
  have hsmall := elem_small hn sI
  obtain ⟨p2, c2, rfl⟩ := h2.shape
  have hL := Lib.hid live_any
  have hmx : ((ins.length : Nat) : Int) ≤ 100 := by omega
  replace hE := Lib.hid hE
  replace h2 := Lib.hid h2
  replace hsmall := Lib.hid hsmall
  replace hlen := Lib.hid hlen
  replace hF := Lib.hid hF
  clear hi hat
  go_enter Try.func3, Try.ntmps3
  go_wp2_with (first
    | (go_at_call 8; refine hF.out.mono ?_; rintro e w1 ⟨rfl, rfl⟩)
    | (go_at_call 9; refine hE.out.mono ?_; rintro e w1 ⟨v1, rfl, hT1, hb1⟩
       obtain ⟨p1, c1, hv1⟩ := hT1.shape
       rw [hlen.out] at hv1
       subst hv1
       replace hT1 := Lib.hid hT1
       replace hb1 := Lib.hid hb1))
  go_loopg [6, 7, 8] ins.length (fun gg s6 s7 s8 wr => ∃ k : Nat, k ≤ ins.length ∧ ins.length - k ≤ gg ∧ s8 = .int .i64 k ∧ s6 = .int .i64 (depK ins k) ∧ s7 = .int .i64 (mostK ins k) ∧ wr = w1)
  case atStart => exact ⟨0, Nat.zero_le _, by omega, rfl, rfl, rfl, rfl⟩
  case round =>
    obtain ⟨k, hk, hgk, rfl, rfl, rfl, rfl⟩ := hrel
    have hda := depK_abs ins k
    have hma := mostK_abs ins k
    by_cases hlt : k < ins.length
    · obtain ⟨px, cx, he, _, _, h3⟩ := h2.out
      injection he with he _ hec
      subst he hec
      obtain ⟨b, o, rfl, hb, hcc⟩ := h3 (by omega)
      obtain ⟨_, c0, _⟩ := hcc k hlt
      replace c0 := (hb1.out.cell (p := ⟨b, o + k * 4, none⟩) hb).trans c0
      clear hcc h3
      generalize hkd : ins[k].k = kd at c0
      have hkk : Hid (ins[k].k = kd) := Lib.hid hkd
      clear hkd
      have hi0 : (0 : Int) ≤ (k : Int) := by omega
      have hi1 : (k : Int) < (ins.length : Int) := by omega
      by_cases e1 : kd = 1
      · subst e1
        have hdk : Hid (depK ins (k + 1) = depK ins k + 1) := Lib.hid (by rw [depK_succ ins k hlt, hkk.out]; simp)
        have hwr : IntKind.i64.wrap (depK ins k + 1) = depK ins k + 1 := wrap_near _ (by omega) (by omega)
        by_cases hgt : depK ins k + 1 > mostK ins k
        · go_wp2_with fail
          go_roundg (ins.length - (k + 1))
          case measure => omega
          case rel => exact ⟨k + 1, by omega, by omega, by go_num, by rw [hdk.out], by rw [mostK_succ, hdk.out, if_pos (by omega)], rfl⟩
        · go_wp2_with fail
          go_roundg (ins.length - (k + 1))
          case measure => omega
          case rel => exact ⟨k + 1, by omega, by omega, by go_num, by rw [hdk.out], by rw [mostK_succ, hdk.out, if_neg (by omega)], rfl⟩
      · by_cases e2 : kd = 2
        · subst e2
          have hdk : Hid (depK ins (k + 1) = depK ins k - 1) := Lib.hid (by rw [depK_succ ins k hlt, hkk.out]; simp)
          have hwr : IntKind.i64.wrap (depK ins k - 1) = depK ins k - 1 := wrap_near _ (by omega) (by omega)
          by_cases hgt : depK ins k - 1 > mostK ins k
          · go_wp2_with fail
            go_roundg (ins.length - (k + 1))
            case measure => omega
            case rel => exact ⟨k + 1, by omega, by omega, by go_num, by rw [hdk.out], by rw [mostK_succ, hdk.out, if_pos (by omega)], rfl⟩
          · go_wp2_with fail
            go_roundg (ins.length - (k + 1))
            case measure => omega
            case rel => exact ⟨k + 1, by omega, by omega, by go_num, by rw [hdk.out], by rw [mostK_succ, hdk.out, if_neg (by omega)], rfl⟩
        · have hdk : Hid (depK ins (k + 1) = depK ins k) := Lib.hid (by rw [depK_succ ins k hlt, hkk.out]; simp [e1, e2])
          by_cases hgt : depK ins k > mostK ins k
          · go_wp2_with fail
            go_roundg (ins.length - (k + 1))
            case measure => omega
            case rel => exact ⟨k + 1, by omega, by omega, by go_num, by rw [hdk.out], by rw [mostK_succ, hdk.out, if_pos (by omega)], rfl⟩
          · go_wp2_with fail
            go_roundg (ins.length - (k + 1))
            case measure => omega
            case rel => exact ⟨k + 1, by omega, by omega, by go_num, by rw [hdk.out], by rw [mostK_succ, hdk.out, if_neg (by omega)], rfl⟩
    · have hke : k = ins.length := by omega
      subst hke
      have hRi := right_full _ ins _ (h2.out.below hb1.out) sI
      cases hr : rightL ins with
      | false =>
        rw [hr] at hRi
        clear hr
        go_wp2_with (first
          | (go_at_call 10; refine hRi.mono ?_; rintro e w3 ⟨rfl, hb3⟩)
          | (go_at_call 11; refine (hL.out _).mono ?_; rintro e w5 ⟨rfl, hb5⟩))
        go_ret
        exact ⟨rfl, belowT (belowT hb1.out hb3) hb5⟩
      | true =>
        rw [hr] at hRi
        by_cases h8 : mostK ins ins.length < 8
        · by_cases h64 : ins.length + 2 ≤ 64
          · obtain ⟨hw1, hw2⟩ := wrap_right (name := name) hr h8 h64
            have h8' : ¬ (8 : Int) ≤ mostK ins ins.length := by omega
            have hRl := fun W hB => right_full _ (elemL name [] ins) W (hT1.out.below hB) hsmall.out
            have hWl := fun W hB => whole_full _ (elemL name [] ins) W (hT1.out.below hB) hsmall.out
            rw [hw1] at hRl
            rw [hw2] at hWl
            have hRn := fun v W hB => right_full v [⟨1, name, [], []⟩, ⟨2, name, [], []⟩] W hB (by
              intro tk ht
              simp only [List.mem_cons, List.mem_nil_iff, or_false] at ht
              rcases ht with rfl | rfl
              · exact ⟨hn, by simp, by simp, fun _ h => by cases h⟩
              · exact ⟨hn, by simp, by simp, fun _ h => by cases h⟩)
            rw [named_right] at hRn
            replace hRl := Lib.hid hRl
            replace hWl := Lib.hid hWl
            replace hRn := Lib.hid hRn
            clear hr hw1 hw2
            have tok1 := Lib.hid True.intro
            go_wp2_with (first
              | (go_at_call 10; have m0 := tok1.out; refine hRi.mono ?_; rintro e w3 ⟨rfl, hb3⟩
                 clear tok1 m0
                 have tok2 := Lib.hid True.intro)
              | (go_at_call 10; have m0 := tok2.out
                 refine (hRn.out _ _ (tk_two _ w3.heap.size (by simp) ⟨1, name, [], []⟩ ⟨2, name, [], []⟩ _ _ (by simp) (by simp) (by simp) (by simp) (at_nil _ 0 (Nat.zero_le _)) (by simp) (by simp) (by simp) (by simp) (at_nil _ 0 (Nat.zero_le _)))).mono ?_
                 rintro e w4 ⟨rfl, hb4⟩
                 have q4 := Lib.hid (belowT (belowA hb3 _) hb4)
                 clear tok2 m0 hb4
                 have tok3 := Lib.hid True.intro)
              | (go_at_call 11; refine (hL.out _).mono ?_; rintro e w5 ⟨rfl, hb5⟩
                 have q5 := Lib.hid (belowT q4.out hb5)
                 clear hb5)
              | (go_at_call 10; have m0 := tok3.out; refine (hRl.out _ q5.out).mono ?_; rintro e w6 ⟨rfl, hb6⟩
                 have q6 := Lib.hid (belowT q5.out hb6)
                 clear hb6 tok3 m0)
              | (go_at_call 12; refine (hWl.out _ q6.out).mono ?_; rintro e w7 ⟨rfl, hb7⟩
                 have q7 := Lib.hid (belowT q6.out hb7)
                 clear hb7))
            go_ret
            exact ⟨rfl, belowT hb1.out q7.out⟩
          · clear hr
            have h8' : ¬ (8 : Int) ≤ mostK ins ins.length := by omega
            go_wp2_with (first
              | (go_at_call 10; refine hRi.mono ?_; rintro e w3 ⟨rfl, hb3⟩)
              | (go_at_call 11; refine (hL.out _).mono ?_; rintro e w5 ⟨rfl, hb5⟩))
            go_ret
            exact ⟨rfl, belowT (belowT hb1.out hb3) hb5⟩
        · clear hr
          have h8' : (8 : Int) ≤ mostK ins ins.length := by omega
          go_wp2_with (first
            | (go_at_call 10; refine hRi.mono ?_; rintro e w3 ⟨rfl, hb3⟩)
            | (go_at_call 11; refine (hL.out _).mono ?_; rintro e w5 ⟨rfl, hb5⟩))
          go_ret
          exact ⟨rfl, belowT (belowT hb1.out hb3) hb5⟩
theorem writeWraps_walk (name : List UInt8) (v0 : Value) (l : List Tk) (w : World) (hn : name.length ≤ 140737488351232) (hT : TkS w v0 l) (hB : TksB 140737488351232 l) :
    Calls Try.prog 3 #[.string ⟨name.toArray⟩, v0] w fun e w' => e = .returned (.bool true) ∧ Below w.heap.size w w' := by
  obtain ⟨v2, hv2, hT2⟩ := few_fix v0 l w hT
  exact writeWraps_of name v2 (l.take 70) w hn hT2 (hB.take 70) (by rw [List.length_take]; omega) v0 hv2
end Go.Proofs.Ytfmheobofikkmaa
