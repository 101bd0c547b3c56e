/-
  The reference's parent, above, has; the laws' in; the references' Same of names and of edges. Condition: at most 1000 elements.
-/
import Derived.Test.YtgodmppmiamhaaaCoLive
namespace Go.Proofs.Ytgodmppmiamhaaa
set_option linter.unusedVariables false
set_option linter.unusedSimpArgs false
open Go.RowKit Go.MapKept Go.Shelf
theorem par_hit {c : Txt} : ∀ {E : Ats} {k : Nat} (h : k < E.length), (∀ i (hi : i < E.length), i < k → (E[i]'hi).1 ≠ c) → (E[k]'h).1 = c → parE E c = some (E[k]'h).2
  | e :: r, 0, _, _, h => by
    have h' : e.1 = c := by simpa using h
    show (if e.1 = c then some e.2 else parE r c) = _
    rw [if_pos h']
    simp
  | e :: r, k + 1, hk, hn, h => by
    have h0 : ¬ e.1 = c := hn 0 (by simp) (by omega)
    show (if e.1 = c then some e.2 else parE r c) = _
    rw [if_neg h0]
    have := par_hit (E := r) (k := k) (by simpa using hk) (fun i hi hlt => by have := hn (i + 1) (by simpa using hi) (by omega); simpa using this) (by simpa using h)
    rw [this]
    simp
theorem par_no {E : Ats} {c : Txt} (h : ∀ i (hi : i < E.length), (E[i]'hi).1 ≠ c) : parE E c = none := par_small (fun e he => by obtain ⟨i, hi, rfl⟩ := List.getElem_of_mem he; exact h i hi)
set_option maxHeartbeats 1000000 in
theorem refParent_any (v : Value) (E : Ats) (c : Txt) (w : World) (hA : AtS w v E) (hl : E.length ≤ 1000) :
    Calls Try.prog 40 #[v, .string ⟨c.toArray⟩] w fun e w' => e = .returned (.tuple #[.string ⟨((parE E c).getD []).toArray⟩, .bool (parE E c).isSome]) ∧ Below w.heap.size w w' := by
  obtain ⟨ptr, cap, rfl, hc1, hc2, hat⟩ := hA
  obtain ⟨N, hN⟩ : ∃ N, E.length = N := ⟨_, rfl⟩
  rw [hN] at hl ⊢
  replace hN := Lib.hid hN
  replace hat := Lib.hid hat
  go_enter Try.func40, Try.ntmps40
  go_wp2
  go_loopw [6] (fun s6 wr => ∃ k : Nat, k ≤ N ∧ s6 = .int .i64 k ∧ Hid (∀ i (h : i < E.length), i < k → (E[i]'h).1 ≠ c) ∧ Hid (Below w.heap.size w wr)) (fun s6 _ => N - (intOf s6).toNat)
  case atStart => exact ⟨0, Nat.zero_le _, rfl, Lib.hid (fun i _ hi => absurd hi (Nat.not_lt_zero _)), Lib.hid (Below.refl _ _)⟩
  case round =>
    obtain ⟨k, hk, rfl, hno, hB⟩ := hrel
    by_cases hlt : k < N
    · have hk3 : k < E.length := by have := hN.out; omega
      obtain ⟨b, o, rfl, hb, hcc⟩ := hat.out (by omega)
      obtain ⟨d0, d1⟩ := hcc k hk3
      have kc := fun (j : Nat) => hB.out.cell (p := ⟨b, j, none⟩) hb
      replace d0 := (kc _).trans d0
      replace d1 := (kc _).trans d1
      clear kc hcc
      have hph := par_hit (c := c) hk3 hno.out
      generalize hE : E[k] = x at d0 d1 hph
      obtain ⟨ch, pa⟩ := x
      simp only at d0 d1 hph
      replace hE := Lib.hid hE
      have hki : (k : Int) < (N : Int) := by omega
      have hk0 : (0 : Int) ≤ (k : Int) := by omega
      have hbw : b < wr.heap.size := Nat.lt_of_lt_of_le hb hB.out.size
      by_cases hx : ch = c
      · have hr := Lib.hid (hph hx)
        clear hph
        subst hx
        go_wp2
        go_ret2
        rw [hr.out]
        exact ⟨rfl, hB.out⟩
      · have hxb : (ch == c) = false := by simpa using hx
        replace hph := Lib.hid hph
        replace hx := Lib.hid hx
        go_wp2
        go_roundw
        case rel =>
          refine ⟨k + 1, by omega, by simp, Lib.hid (fun i h hi => ?_), Lib.hid hB.out⟩
          rcases Nat.lt_or_ge i k with h' | h'
          · exact hno.out i h h'
          · obtain rfl : i = k := by omega
            rw [hE.out]; exact hx.out
        case measure => simp [intOf]; omega
    · have hr := Lib.hid (par_no (c := c) (fun i hi => hno.out i hi (by have := hN.out; omega)))
      have hki : ¬ (k : Int) < (N : Int) := by omega
      go_wp2
      go_ret2
      rw [hr.out]
      exact ⟨rfl, hB.out⟩
set_option maxHeartbeats 2000000 in
theorem refAbove_any (v : Value) (E : Ats) (c : Txt) (w : World) (hA : AtS w v E) (hl : E.length ≤ 1000) :
    Calls Try.prog 42 #[v, .string ⟨c.toArray⟩] w fun e w' => ∃ sv, e = .returned sv ∧ StS w' sv (aboveE E c) ∧ Below w.heap.size w w' := by
  obtain ⟨i0, hi, hz0, hz1, hz2⟩ := info_parts infoSt
  obtain ⟨vp, vc, rfl⟩ : ∃ a c, v = .slice a E.length c := by obtain ⟨a, c, h, -⟩ := hA; exact ⟨a, c, h⟩
  obtain ⟨N, hN⟩ : ∃ N, E.length = N := ⟨_, rfl⟩
  have hPN : Hid (∀ nm W1, Below w.heap.size w W1 → parE E nm = none → Calls Try.prog 40 #[.slice vp N vc, .string ⟨nm.toArray⟩] W1 fun e w' => e = .returned (.tuple #[.string ⟨#[]⟩, .bool false]) ∧ Below W1.heap.size W1 w') := Lib.hid fun nm W1 hb hp => by
    rw [← hN]
    refine (refParent_any _ E nm W1 (hA.below hb) hl).mono ?_
    rintro e w' ⟨rfl, h⟩
    rw [hp]
    exact ⟨rfl, h⟩
  have hPS : Hid (∀ nm W1 p, Below w.heap.size w W1 → parE E nm = some p → Calls Try.prog 40 #[.slice vp N vc, .string ⟨nm.toArray⟩] W1 fun e w' => e = .returned (.tuple #[.string ⟨p.toArray⟩, .bool true]) ∧ Below W1.heap.size W1 w') := Lib.hid fun nm W1 p hb hp => by
    rw [← hN]
    refine (refParent_any _ E nm W1 (hA.below hb) hl).mono ?_
    rintro e w' ⟨rfl, h⟩
    rw [hp]
    exact ⟨rfl, h⟩
  have hab : Hid (aboveE E c = upF (parE E) N c) := Lib.hid (by rw [← hN]; rfl)
  rw [hN] at hl ⊢
  clear hA
  go_enter Try.func42, Try.ntmps42
  go_wp2
  go_loopw [5, 6, 7] (fun s5 s6 s7 wr => ∃ (k : Nat) (nm : Txt), k ≤ N ∧ s7 = .int .i64 k ∧ s6 = .string ⟨nm.toArray⟩ ∧ Hid (itF (parE E) k c = some nm) ∧ Hid (wr.ownsRow w.heap.size 9 1 s5 (upF (parE E) k c).length (strC (upF (parE E) k c))) ∧ Hid (Below w.heap.size w wr)) (fun _ _ s7 _ => N - (intOf s7).toNat)
  case atStart => exact ⟨0, c, Nat.zero_le _, rfl, rfl, Lib.hid rfl, Lib.hid (World.ownsRow_nil _ _ _ _), Lib.hid (Below.refl _ _)⟩
  case round =>
    obtain ⟨k, nm, hk, rfl, rfl, hit, hO, hB⟩ := hrel
    obtain ⟨na, nc, rfl⟩ := owns_shp hO.out
    have hul := upF_len (f := parE E) k c
    replace hul := Lib.hid hul
    by_cases hlt : k < N
    · have hki : (k : Int) < (N : Int) := by omega
      cases hp : parE E nm with
      | none =>
        have hst := Lib.hid (upF_stop hit.out hp hk)
        have hfi := Lib.hid (hPN.out nm wr hB.out hp)
        replace hp := Lib.hid hp
        go_wp2_with (go_at_call 40; refine hfi.out.mono ?_; rintro e w1 ⟨rfl, hb1⟩; have hO1 := owns_sts (owns_below hO.out hb1); replace hO1 := Lib.hid hO1; replace hb1 := Lib.hid hb1)
        go_ret
        exact ⟨_, rfl, by rw [hab.out, hst.out]; exact hO1.out, belowT hB.out hb1.out⟩
      | some p =>
        obtain ⟨hsn, hit2⟩ := upF_snoc hit.out hp
        have hfi := Lib.hid (hPS.out nm wr p hB.out hp)
        replace hsn := Lib.hid hsn
        replace hit2 := Lib.hid hit2
        replace hp := Lib.hid hp
        go_wp2_with (first
          | (go_at_call 40; refine hfi.out.mono ?_; rintro e w1 ⟨rfl, hb1⟩
             have hO1 := (owns_below hO.out hb1).alloc (.cells #[.string ⟨p.toArray⟩] 9)
             have hs1 : w.heap.size ≤ w1.heap.size := Nat.le_trans hB.out.size hb1.size
             replace hO1 := Lib.hid hO1
             replace hs1 := Lib.hid hs1
             replace hb1 := Lib.hid hb1)
          | (at_builtin; refine wpList_append_own _ rfl _ _ 35 rfl w.heap.size 9 i0 _ 1 16 Try.underlying35 hi hz0 hz1 hz2 rfl (by decide) _ _ _ rfl hO1.out ⟨w1.heap.size, 0, none⟩ 1 1 [.string ⟨p.toArray⟩] rfl rfl (cell_one_new _ _ _) (by simp [Value.oneCell']) (by have := hul.out; unfold maxLen; omega) (by have := hul.out; omega) (by have := hs1.out; simp only [World.size_alloc]; omega) ?_
             intro v' w2 hO2 hg2 _
             have hb2 := (belowA (belowT hB.out hb1.out) (.cells #[.string ⟨p.toArray⟩] 9)).grown hg2 (by have := hs1.out; simp only [World.size_alloc]; omega) (fun k hk => (hO1.out.lt k hk).1)
             replace hO2 := Lib.hid hO2
             replace hb2 := Lib.hid hb2))
        go_roundw
        case rel =>
          refine ⟨k + 1, p, by omega, by simp, rfl, hit2, ?_, hb2⟩
          rw [hsn.out, List.length_append]
          simpa [strC] using hO2
        case measure => simp [intOf]; omega
    · obtain rfl : k = N := by omega
      have hki : ¬ (k : Int) < (k : Int) := by omega
      go_wp2
      go_ret
      exact ⟨_, rfl, by rw [hab.out]; exact owns_sts hO.out, hB.out⟩
set_option maxHeartbeats 1000000 in
theorem has_any (v : Value) (l : List Txt) (c : Txt) (w : World) (hA : StS w v l) (hl : l.length ≤ 1000) :
    Calls Try.prog 43 #[v, .string ⟨c.toArray⟩] w fun e w' => e = .returned (.bool (l.contains c)) ∧ Below w.heap.size w w' := by
  obtain ⟨ptr, cap, rfl, hc1, hc2, hat⟩ := hA
  obtain ⟨R, hR⟩ : ∃ R, l.contains c = R := ⟨_, rfl⟩
  rw [hR]
  replace hR := Lib.hid hR
  obtain ⟨N, hN⟩ : ∃ N, l.length = N := ⟨_, rfl⟩
  rw [hN] at hl ⊢
  replace hN := Lib.hid hN
  replace hat := Lib.hid hat
  go_enter Try.func43, Try.ntmps43
  go_wp2
  go_loopw [5] (fun s5 wr => ∃ k : Nat, k ≤ N ∧ s5 = .int .i64 k ∧ Hid (∀ i (h : i < l.length), i < k → l[i]'h ≠ c) ∧ Hid (Below w.heap.size w wr)) (fun s5 _ => N - (intOf s5).toNat)
  case atStart => exact ⟨0, Nat.zero_le _, rfl, Lib.hid (fun i _ hi => absurd hi (Nat.not_lt_zero _)), Lib.hid (Below.refl _ _)⟩
  case round =>
    obtain ⟨k, hk, rfl, hno, hB⟩ := hrel
    by_cases hlt : k < N
    · have hk3 : k < l.length := by have := hN.out; omega
      obtain ⟨b, o, rfl, hb, hcc⟩ := hat.out (by omega)
      have d0 := hcc k hk3
      have kc := fun (j : Nat) => hB.out.cell (p := ⟨b, j, none⟩) hb
      replace d0 := (kc _).trans d0
      clear kc hcc
      have hm := List.getElem_mem hk3
      generalize hE : l[k] = x at d0 hm
      replace hE := Lib.hid hE
      have hki : (k : Int) < (N : Int) := by omega
      have hk0 : (0 : Int) ≤ (k : Int) := by omega
      have hbw : b < wr.heap.size := Nat.lt_of_lt_of_le hb hB.out.size
      by_cases hx : x = c
      · have hr := Lib.hid (show R = true by rw [← hR.out, List.contains_iff_mem, ← hx]; exact hm)
        clear hm
        subst hx
        go_wp2
        go_ret
        rw [hr.out]
        exact ⟨rfl, hB.out⟩
      · have hxb : (x == c) = false := by simpa using hx
        clear hm
        replace hx := Lib.hid hx
        go_wp2
        go_roundw
        case rel =>
          refine ⟨k + 1, by omega, by simp, Lib.hid (fun i h hi => ?_), Lib.hid hB.out⟩
          rcases Nat.lt_or_ge i k with h' | h'
          · exact hno.out i h h'
          · obtain rfl : i = k := by omega
            rw [hE.out]; exact hx.out
        case measure => simp [intOf]; omega
    · have hr := Lib.hid (show R = false by
        rw [← hR.out]
        cases hc : l.contains c with
        | false => rfl
        | true =>
          rw [List.contains_iff_mem] at hc
          obtain ⟨i, hi, he⟩ := List.getElem_of_mem hc
          exact absurd he (hno.out i hi (by have := hN.out; omega)))
      have hki : ¬ (k : Int) < (N : Int) := by omega
      go_wp2
      go_ret
      rw [hr.out]
      exact ⟨rfl, hB.out⟩
set_option maxHeartbeats 1000000 in
theorem in_any (v : Value) (l : List Txt) (c : Txt) (w : World) (hA : StS w v l) (hl : l.length ≤ 1000) :
    Calls Try.prog 23 #[v, .string ⟨c.toArray⟩] w fun e w' => e = .returned (.bool (l.contains c)) ∧ Below w.heap.size w w' := by
  obtain ⟨ptr, cap, rfl, hc1, hc2, hat⟩ := hA
  obtain ⟨R, hR⟩ : ∃ R, l.contains c = R := ⟨_, rfl⟩
  rw [hR]
  replace hR := Lib.hid hR
  obtain ⟨N, hN⟩ : ∃ N, l.length = N := ⟨_, rfl⟩
  rw [hN] at hl ⊢
  replace hN := Lib.hid hN
  replace hat := Lib.hid hat
  go_enter Try.func23, Try.ntmps23
  go_wp2
  go_loopw [5] (fun s5 wr => ∃ k : Nat, k ≤ N ∧ s5 = .int .i64 k ∧ Hid (∀ i (h : i < l.length), i < k → l[i]'h ≠ c) ∧ Hid (Below w.heap.size w wr)) (fun s5 _ => N - (intOf s5).toNat)
  case atStart => exact ⟨0, Nat.zero_le _, rfl, Lib.hid (fun i _ hi => absurd hi (Nat.not_lt_zero _)), Lib.hid (Below.refl _ _)⟩
  case round =>
    obtain ⟨k, hk, rfl, hno, hB⟩ := hrel
    by_cases hlt : k < N
    · have hk3 : k < l.length := by have := hN.out; omega
      obtain ⟨b, o, rfl, hb, hcc⟩ := hat.out (by omega)
      have d0 := hcc k hk3
      have kc := fun (j : Nat) => hB.out.cell (p := ⟨b, j, none⟩) hb
      replace d0 := (kc _).trans d0
      clear kc hcc
      have hm := List.getElem_mem hk3
      generalize hE : l[k] = x at d0 hm
      replace hE := Lib.hid hE
      have hki : (k : Int) < (N : Int) := by omega
      have hk0 : (0 : Int) ≤ (k : Int) := by omega
      have hbw : b < wr.heap.size := Nat.lt_of_lt_of_le hb hB.out.size
      by_cases hx : x = c
      · have hr := Lib.hid (show R = true by rw [← hR.out, List.contains_iff_mem, ← hx]; exact hm)
        clear hm
        subst hx
        go_wp2
        go_ret
        rw [hr.out]
        exact ⟨rfl, hB.out⟩
      · have hxb : (x == c) = false := by simpa using hx
        clear hm
        replace hx := Lib.hid hx
        go_wp2
        go_roundw
        case rel =>
          refine ⟨k + 1, by omega, by simp, Lib.hid (fun i h hi => ?_), Lib.hid hB.out⟩
          rcases Nat.lt_or_ge i k with h' | h'
          · exact hno.out i h h'
          · obtain rfl : i = k := by omega
            rw [hE.out]; exact hx.out
        case measure => simp [intOf]; omega
    · have hr := Lib.hid (show R = false by
        rw [← hR.out]
        cases hc : l.contains c with
        | false => rfl
        | true =>
          rw [List.contains_iff_mem] at hc
          obtain ⟨i, hi, he⟩ := List.getElem_of_mem hc
          exact absurd he (hno.out i hi (by have := hN.out; omega)))
      have hki : ¬ (k : Int) < (N : Int) := by omega
      go_wp2
      go_ret
      rw [hr.out]
      exact ⟨rfl, hB.out⟩
theorem same_pre {α : Type} : ∀ {a b : List α}, a.length = b.length → (∀ j (h1 : j < a.length) (h2 : j < b.length), a[j]'h1 = b[j]'h2) → a = b := fun h1 h2 => List.ext_getElem h1 h2
set_option maxHeartbeats 1000000 in
theorem sameS_any (v1 v2 : Value) (a b : List Txt) (w : World) (hA : StS w v1 a) (hB0 : StS w v2 b) (hl : a.length ≤ 1000) :
    Calls Try.prog 18 #[v1, v2] w fun e w' => e = .returned (.bool (decide (a = b))) ∧ Below w.heap.size w w' := by
  obtain ⟨p1, c1, rfl, h11, h12, hat1⟩ := hA
  obtain ⟨p2, c2, rfl, h21, h22, hat2⟩ := hB0
  have hb63 : (b.length : Int) ≤ 9223372036854775807 := by unfold maxLen at h22; omega
  by_cases hab : a.length = b.length
  · obtain ⟨N, hN⟩ : ∃ N, a.length = N := ⟨_, rfl⟩
    have hN2 : b.length = N := by omega
    rw [hN2, hN]
    rw [hN] at hl
    replace hN := Lib.hid hN
    replace hN2 := Lib.hid hN2
    replace hat1 := Lib.hid hat1
    replace hat2 := Lib.hid hat2
    clear h11 h12 h21 h22 hab hb63
    go_enter Try.func18, Try.ntmps18
    go_wp2
    go_loopw [5] (fun s5 wr => ∃ k : Nat, k ≤ N ∧ s5 = .int .i64 k ∧ Hid (∀ j (h1 : j < a.length) (h2 : j < b.length), j < k → a[j]'h1 = b[j]'h2) ∧ Hid (Below w.heap.size w wr)) (fun s5 _ => N - (intOf s5).toNat)
    case atStart => exact ⟨0, Nat.zero_le _, rfl, Lib.hid (fun i _ _ hi => absurd hi (Nat.not_lt_zero _)), Lib.hid (Below.refl _ _)⟩
    case round =>
      obtain ⟨k, hk, rfl, hno, hB⟩ := hrel
      by_cases hlt : k < N
      · have hk1 : k < a.length := by have := hN.out; omega
        have hk2 : k < b.length := by have := hN2.out; omega
        obtain ⟨b1, o1, rfl, hb1, hcc1⟩ := hat1.out (by omega)
        obtain ⟨b2, o2, rfl, hb2, hcc2⟩ := hat2.out (by omega)
        have d1 := (hB.out.cell (p := ⟨b1, o1 + k, none⟩) hb1).trans (hcc1 k hk1)
        have d2 := (hB.out.cell (p := ⟨b2, o2 + k, none⟩) hb2).trans (hcc2 k hk2)
        clear hcc1 hcc2
        have hneq : a[k]'hk1 ≠ b[k]'hk2 → decide (a = b) = false := fun h => by
          rw [decide_eq_false_iff_not]
          intro e
          subst e
          exact h rfl
        generalize hE1 : a[k] = x at d1 hneq
        generalize hE2 : b[k] = y at d2 hneq
        replace hE1 := Lib.hid hE1
        replace hE2 := Lib.hid hE2
        have hki : (k : Int) < (N : Int) := by omega
        have hk0 : (0 : Int) ≤ (k : Int) := by omega
        have hbw1 : b1 < wr.heap.size := Nat.lt_of_lt_of_le hb1 hB.out.size
        have hbw2 : b2 < wr.heap.size := Nat.lt_of_lt_of_le hb2 hB.out.size
        by_cases hx : x = y
        · clear hneq
          subst hx
          go_wp2_with fail
          go_quiet (fail)
          go_wp2_with fail
          go_roundw
          case rel =>
            refine ⟨k + 1, by omega, by simp, Lib.hid (fun i h1 h2 hi => ?_), Lib.hid (belowN hB.out _)⟩
            rcases Nat.lt_or_ge i k with h' | h'
            · exact hno.out i h1 h2 h'
            · obtain rfl : i = k := by omega
              rw [hE1.out, hE2.out]
          case measure => simp [intOf]; omega
        · have hr := Lib.hid (hneq hx)
          have hxb : (x == y) = false := by simpa using hx
          have hxb2 : (x != y) = true := by simpa using hx
          clear hneq
          replace hx := Lib.hid hx
          go_wp2_with fail
          go_quiet (fail)
          go_wp2_with fail
          go_ret
          rw [hr.out]
          exact ⟨rfl, (belowN hB.out _)⟩
      · obtain rfl : k = N := by omega
        have hr := Lib.hid (show decide (a = b) = true by
          rw [decide_eq_true_iff]
          exact same_pre (by rw [hN.out, hN2.out]) (fun j h1 h2 => hno.out j h1 h2 (by have := hN.out; omega)))
        have hki : ¬ (k : Int) < (k : Int) := by omega
        go_wp2
        go_ret
        rw [hr.out]
        exact ⟨rfl, hB.out⟩
  · have hr := Lib.hid (show decide (a = b) = false by rw [decide_eq_false_iff_not]; intro e; exact hab (by rw [e]))
    have hne : ¬ (a.length : Int) = (b.length : Int) := by omega
    go_enter Try.func18, Try.ntmps18
    go_wp2
    go_ret
    rw [hr.out]
    exact ⟨rfl, Below.refl _ _⟩
end Go.Proofs.Ytgodmppmiamhaaa
