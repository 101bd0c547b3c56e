/-
  Whether a token is right, by the reference (heliographref04.one). Conditions: no text beyond the reach; the library's tables are as they were laid.
-/
import Derived.Test.YtadahlffdhgapaaDoorWrRight
import Derived.Test.YtadahlffdhgapaaDoorRfChars
import Derived.Test.YtadahlffdhgapaaDoorRfName
import Derived.Test.YtadahlffdhgapaaDoorWrOps
namespace Go.Proofs.YtadahlffdhgapaaDoor
set_option linter.unusedVariables false
set_option linter.unusedSimpArgs false
open Go.RowKit Go.MapKept
theorem seen_has {al : Ats} {j k : Nat} {x : List UInt8} (h : k < al.length) (hk : k < j) (e : (al[k]'h).1 = x) : (seenOf al j).contains x = true := by
  rw [List.contains_iff_mem]
  unfold seenOf
  rw [List.mem_map]
  refine ⟨al[k], ?_, e⟩
  rw [List.mem_take_iff_getElem]
  exact ⟨k, by omega, rfl⟩
theorem seen_not {al : Ats} {j : Nat} {x : List UInt8} (hj : j ≤ al.length) (h : ∀ m (hm : m < al.length), m < j → (al[m]'hm).1 ≠ x) : (seenOf al j).contains x = false := by
  rw [Bool.eq_false_iff]
  intro hc
  rw [List.contains_iff_mem] at hc
  unfold seenOf at hc
  obtain ⟨p, hp, e⟩ := List.mem_map.1 hc
  obtain ⟨m, hm, e2⟩ := List.mem_take_iff_getElem.1 hp
  exact h m (by omega) (by omega) (by rw [e2]; exact e)
theorem step_no {seen : List (List UInt8)} {al : Ats} {j : Nat} (h : j < al.length) (hc : nameP (al[j]'h).1 = false ∨ fitsP (al[j]'h).2 = false ∨ seen.contains (al[j]'h).1 = true) : attrsP seen (al.drop j) = false := by
  rw [attrsP_step h]
  rcases hc with h | h | h <;> rw [h] <;> simp
theorem step_yes {seen : List (List UInt8)} {al : Ats} {j : Nat} (h : j < al.length) (h1 : nameP (al[j]'h).1 = true) (h2 : fitsP (al[j]'h).2 = true) (h3 : seen.contains (al[j]'h).1 = false) (h8 : seen.length < 8) : attrsP seen (al.drop j) = attrsP (seen ++ [(al[j]'h).1]) (al.drop (j + 1)) := by
  rw [attrsP_step h, h1, h2, h3, decide_eq_true_iff.2 h8]
  simp
set_option maxHeartbeats 2000000 in
theorem one_other (tk : Tk) (sv : Value) (w : World) (h : AtS w sv tk.as) (hk : tk.k ≠ 1 ∧ tk.k ≠ 2 ∧ tk.k ≠ 3) :
    Calls Tryd.prog 24 #[.agg (tkC tk sv)] w fun e w' => e = .returned (.bool (rightT tk)) ∧ Below w.heap.size w w' := by
  obtain ⟨k, n, al, t⟩ := tk
  obtain ⟨ptr, cap, rfl, -⟩ := h
  obtain ⟨k1, k2, k3⟩ := hk
  simp only at k1 k2 k3
  have hr : rightT ⟨k, n, al, t⟩ = false := by simp [rightT, k1, k2, k3]
  rw [hr]
  unfold tkC
  have i1 : (k == 1) = false := by simpa using k1
  have i2 : (k == 2) = false := by simpa using k2
  have i3 : (k == 3) = false := by simpa using k3
  go_enter Tryd.func24, Tryd.ntmps24
  go_wp2_with fail
  go_ret
  exact ⟨rfl, below1 _ _⟩
set_option maxHeartbeats 2000000 in
theorem one_end (tk : Tk) (sv : Value) (w : World) (h : AtS w sv tk.as) (hs : tk.small) (hk : tk.k = 2) :
    Calls Tryd.prog 24 #[.agg (tkC tk sv)] w fun e w' => e = .returned (.bool (rightT tk)) ∧ Below w.heap.size w w' := by
  obtain ⟨k, n, al, t⟩ := tk
  obtain ⟨hn, ht, has, hall⟩ := hs
  obtain ⟨ptr, cap, rfl, -⟩ := h
  simp only at hn ht has hk
  have he : ((al.length : Int) == 0) = al.isEmpty := by cases al with | nil => rfl | cons a r => (rw [beq_eq_false_iff_ne.2 (by simp; omega)]; rfl)
  subst hk
  have hr : rightT ⟨2, n, al, t⟩ = (nameP n && (t == []) && al.isEmpty) := by simp [rightT]
  rw [hr]
  clear hr
  have hN : Hid (∀ W, Calls Tryd.prog 35 #[.string ⟨n.toArray⟩] W fun e w' => e = .returned (.bool (nameP n)) ∧ W = w') := Lib.hid fun W => refName_any n W hn
  generalize al.isEmpty = ae at *
  unfold tkC
  cases hnm : nameP n
  · rw [hnm] at hN
    replace hnm := Lib.hid hnm
    go_enter Tryd.func24, Tryd.ntmps24
    go_wp2_with (go_at_call 35; refine (hN.out _).mono ?_; rintro e w1 ⟨rfl, rfl⟩)
    go_ret
    exact ⟨rfl, below1 _ _⟩
  · rw [hnm] at hN
    replace hnm := Lib.hid hnm
    cases htm : (t == [])
    · go_enter Tryd.func24, Tryd.ntmps24
      go_wp2_with (go_at_call 35; refine (hN.out _).mono ?_; rintro e w1 ⟨rfl, rfl⟩)
      go_ret
      exact ⟨rfl, below1 _ _⟩
    · obtain rfl : t = [] := by simpa using htm
      go_enter Tryd.func24, Tryd.ntmps24
      go_wp2_with (go_at_call 35; refine (hN.out _).mono ?_; rintro e w1 ⟨rfl, rfl⟩)
      go_ret
      exact ⟨by simp [he], below1 _ _⟩
set_option maxHeartbeats 2000000 in
theorem one_chars (tk : Tk) (sv : Value) (w : World) (h : AtS w sv tk.as) (hs : tk.small) (hk : tk.k = 3) (hU : U8T w) :
    Calls Tryd.prog 24 #[.agg (tkC tk sv)] w fun e w' => e = .returned (.bool (rightT tk)) ∧ Below w.heap.size w w' := by
  obtain ⟨k, n, al, t⟩ := tk
  obtain ⟨hn, ht, has, hall⟩ := hs
  obtain ⟨ptr, cap, rfl, -⟩ := h
  simp only at hn ht has hk
  have he : ((al.length : Int) == 0) = al.isEmpty := by cases al with | nil => rfl | cons a r => (rw [beq_eq_false_iff_ne.2 (by simp; omega)]; rfl)
  subst hk
  have hr : rightT ⟨3, n, al, t⟩ = ((n == []) && al.isEmpty && !(t == []) && fitsP t) := by simp [rightT]
  rw [hr]
  clear hr
  have hS : Hid (∀ W, Below w.heap.size w W → Calls Tryd.prog 36 #[.string ⟨t.toArray⟩] W fun e w' => e = .returned (.bool (fitsP t)) ∧ Below W.heap.size W w') := Lib.hid fun W hb => refSmall_any t W ht (hU.below hb)
  replace hU := Lib.hid hU
  unfold tkC
  cases hnm : (n == [])
  · go_enter Tryd.func24, Tryd.ntmps24
    go_wp2_with fail
    go_ret
    exact ⟨rfl, below1 _ _⟩
  · obtain rfl : n = [] := by simpa using hnm
    cases hae : al.isEmpty
    · rw [hae] at he
      replace hae := Lib.hid hae
      go_enter Tryd.func24, Tryd.ntmps24
      go_wp2_with fail
      go_ret
      exact ⟨rfl, below1 _ _⟩
    · rw [hae] at he
      replace hae := Lib.hid hae
      cases htm : (t == [])
      · go_enter Tryd.func24, Tryd.ntmps24
        go_wp2_with (go_at_call 36; refine (hS.out _ (below1 _ _)).mono ?_; rintro e w1 ⟨rfl, hb⟩)
        go_ret
        exact ⟨rfl, below1t hb⟩
      · obtain rfl : t = [] := by simpa using htm
        go_enter Tryd.func24, Tryd.ntmps24
        go_wp2_with fail
        go_ret
        exact ⟨rfl, below1 _ _⟩
set_option maxRecDepth 100000 in
set_option maxHeartbeats 8000000 in
theorem one_begin (tk : Tk) (sv : Value) (w : World) (h : AtS w sv tk.as) (hs : tk.small) (hk : tk.k = 1) (hU : U8T w) :
    Calls Tryd.prog 24 #[.agg (tkC tk sv)] w fun e w' => e = .returned (.bool (rightT tk)) ∧ Below w.heap.size w w' := by
  obtain ⟨k, n, al, t⟩ := tk
  obtain ⟨hn, ht, has, hall⟩ := hs
  obtain ⟨ptr, cap, rfl, hcap, hcapm, hat⟩ := h
  simp only at hn ht has hall hk hcap hat
  subst hk
  have hal9 : (al.length : Int) ≤ 9223372036854775807 := by omega
  have hr : rightT ⟨1, n, al, t⟩ = (attrsP [] al && nameP n && (t == [])) := by simp [rightT]
  rw [hr]
  clear hr
  have hN : Hid (∀ W, Calls Tryd.prog 35 #[.string ⟨n.toArray⟩] W fun e w' => e = .returned (.bool (nameP n)) ∧ W = w') := Lib.hid fun W => refName_any n W hn
  have hNm : Hid (∀ (x : List UInt8) W, x.length ≤ 140737488351232 → Calls Tryd.prog 35 #[.string ⟨x.toArray⟩] W fun e w' => e = .returned (.bool (nameP x)) ∧ W = w') := Lib.hid fun x W hx => refName_any x W hx
  have hSm : Hid (∀ (x : List UInt8) W, x.length ≤ 140737488351232 → Below w.heap.size w W → Calls Tryd.prog 36 #[.string ⟨x.toArray⟩] W fun e w' => e = .returned (.bool (fitsP x)) ∧ Below W.heap.size W w') := Lib.hid fun x W hx hb => refSmall_any x W hx (hU.below hb)
  replace hU := Lib.hid hU
  unfold tkC
  cases hnm : nameP n
  · rw [hnm] at hN
    replace hnm := Lib.hid hnm
    go_enter Tryd.func24, Tryd.ntmps24
    go_wp2_with (go_at_call 35; refine (hN.out _).mono ?_; rintro e w1 ⟨rfl, rfl⟩)
    go_ret
    exact ⟨by simp, below1 _ _⟩
  rw [hnm] at hN
  replace hnm := Lib.hid hnm
  cases htm : (t == [])
  · go_enter Tryd.func24, Tryd.ntmps24
    go_wp2_with (go_at_call 35; refine (hN.out _).mono ?_; rintro e w1 ⟨rfl, rfl⟩)
    go_ret
    exact ⟨by simp, below1 _ _⟩
  obtain rfl : t = [] := by simpa using htm
  clear htm
  simp only [Bool.and_true]
  by_cases h8 : al.length ≤ 8
  · have h8b : decide (8 < (al.length : Int)) = false := by simp; omega
    generalize hR : attrsP [] al = R
    replace hR := Lib.hid hR
    replace hat := Lib.hid hat
    replace hall := Lib.hid hall
    go_enter Tryd.func24, Tryd.ntmps24
    go_wp2_with (go_at_call 35; refine (hN.out _).mono ?_; rintro e w1 ⟨rfl, rfl⟩)
    go_loopw [3] (fun s3 wr => ∃ j : Nat, j ≤ al.length ∧ s3 = .int .i64 j ∧ Hid (attrsP (seenOf al j) (al.drop j) = R) ∧ Hid (wr.heap[w.heap.size]? = some (.cells #[.int .u8 1, .string ⟨n.toArray⟩, .slice ptr al.length cap, .string ⟨#[]⟩] 42)) ∧ Hid (Below w.heap.size w wr)) (fun s3 _ => al.length - (intOf s3).toNat)
    case atStart =>
      exact ⟨0, by omega, rfl, hR, Lib.hid (heap_alloc w _).1, Lib.hid (below1 _ _)⟩
    case round =>
      obtain ⟨j, hj, rfl, hA, hO, hB⟩ := hrel
      obtain ⟨xc, xf, xl⟩ := obj_cells hO.out
      by_cases hlt : j < al.length
      · obtain ⟨ab, ao, rfl, hab, hacell⟩ := hat.out (by omega)
        obtain ⟨a0, a1⟩ := hacell j hlt
        have hji : (j : Int) < al.length := by omega
        have hsz := hB.out.size
        have hwr : ab < wr.heap.size := by omega
        have hcl : Hid (∀ m (hm : m < al.length), wr.cell? ⟨ab, ao + m * 2, none⟩ = some (.string ⟨(al[m]'hm).1.toArray⟩)) := Lib.hid fun m hm => ((bat hB.out ab hab).1 _).trans (hacell m hm).1
        replace a0 : wr.cell? ⟨ab, ao + j * 2, none⟩ = _ := ((bat hB.out ab hab).1 _).trans a0
        replace a1 : wr.cell? ⟨ab, ao + j * 2 + 1, none⟩ = _ := ((bat hB.out ab hab).1 _).trans a1
        have hsm := hall.out _ (List.getElem_mem hlt)
        have hno := step_no (seen := seenOf al j) hlt
        have hys := step_yes (seen := seenOf al j) hlt
        have hsl := seenOf_len hj
        have hsn := seenOf_snoc hlt
        rw [hA.out] at hno hys
        rw [← hsn] at hys
        have hdup : Hid (∀ m (hm : m < al.length), m < j → (al[m]'hm).1 = (al[j]'hlt).1 → R = false) := Lib.hid fun m hm hmj e => hno (.inr (.inr (seen_has hm hmj e)))
        have hnd : Hid ((∀ m (hm : m < al.length), m < j → (al[m]'hm).1 ≠ (al[j]'hlt).1) → (seenOf al j).contains (al[j]'hlt).1 = false) := Lib.hid fun h => seen_not hj h
        clear hacell hsn
        generalize al[j] = p at a0 a1 hsm hno hys hdup hnd
        obtain ⟨pn, pv⟩ := p
        simp only at a0 a1 hsm hno hys hdup hnd
        have hN2 : Hid (∀ W, Calls Tryd.prog 35 #[.string ⟨pn.toArray⟩] W fun e w' => e = .returned (.bool (nameP pn)) ∧ W = w') := Lib.hid fun W => hNm.out pn W hsm.1
        have hS2 : Hid (∀ W, Below w.heap.size w W → Calls Tryd.prog 36 #[.string ⟨pv.toArray⟩] W fun e w' => e = .returned (.bool (fitsP pv)) ∧ Below W.heap.size W w') := Lib.hid fun W hb => hSm.out pv W hsm.2 hb
        replace hno := Lib.hid hno
        replace hys := Lib.hid hys
        replace hsm := Lib.hid hsm
        cases hpn : nameP pn
        · rw [hpn] at hN2
          have hRf := Lib.hid (hno.out (.inl hpn))
          replace hpn := Lib.hid hpn
          go_wp2_with (go_at_call 35; refine (hN2.out _).mono ?_; rintro e w1 ⟨rfl, rfl⟩)
          go_ret
          exact ⟨by rw [hRf.out]; rfl, hB.out⟩
        rw [hpn] at hN2
        cases hpv : fitsP pv
        · rw [hpv] at hS2
          have hRf := Lib.hid (hno.out (.inr (.inl hpv)))
          replace hpn := Lib.hid hpn
          replace hpv := Lib.hid hpv
          go_wp2_with (first
            | (go_at_call 36; refine (hS2.out _ hB.out).mono ?_; rintro e w2 ⟨rfl, hb2⟩; replace hb2 := Lib.hid hb2)
            | (go_at_call 35; refine (hN2.out _).mono ?_; rintro e w1 ⟨rfl, rfl⟩))
          go_ret
          exact ⟨by rw [hRf.out]; rfl, belowT hB.out hb2.out⟩
        rw [hpv] at hS2
        have hys2 := Lib.hid (fun h => (hys.out hpn hpv h (by rw [hsl]; omega)))
        replace hpn := Lib.hid hpn
        replace hpv := Lib.hid hpv
        clear hno hys
        go_wp2_with (first
          | (go_at_call 36; refine (hS2.out _ hB.out).mono ?_; rintro e w2 ⟨rfl, hb2⟩; replace hb2 := Lib.hid hb2)
          | (go_at_call 35; refine (hN2.out _).mono ?_; rintro e w1 ⟨rfl, rfl⟩))
        have hb2s := hb2.out.size
        have xl2 : w.heap.size < w2.heap.size := by omega
        have hwr2 : ab < w2.heap.size := by omega
        have hO2 := Lib.hid ((hb2.out.block _ xl).trans hO.out)
        have hcl2 : Hid (∀ m (hm : m < al.length), w2.cell? ⟨ab, ao + m * 2, none⟩ = some (.string ⟨(al[m]'hm).1.toArray⟩)) := Lib.hid fun m hm => ((bat hb2.out ab hwr).1 _).trans (hcl.out m hm)
        have b0 : w2.cell? ⟨ab, ao + j * 2, none⟩ = some (.string ⟨pn.toArray⟩) := ((bat hb2.out ab hwr).1 _).trans a0
        have hB2 := Lib.hid (belowT hB.out hb2.out)
        replace hcl := hcl2
        clear hcl2 a0 a1 xc xf xl hO hb2 hB
        obtain ⟨xc, xf, xl⟩ := obj_cells hO2.out
        replace b0 := Lib.hid b0
        go_loopw [4] (fun s4 wx => ∃ k : Nat, k ≤ j ∧ s4 = .int .i64 k ∧ Hid (∀ m (hm : m < al.length), m < k → (al[m]'hm).1 ≠ pn) ∧ Hid (Below w2.heap.size w2 wx)) (fun s4 _ => j - (intOf s4).toNat)
        case atStart =>
          exact ⟨0, by omega, rfl, Lib.hid (fun m hm h => absurd h (by omega)), Lib.hid (Below.refl _ _)⟩
        case round =>
          obtain ⟨k, hkj, rfl, hD, hX⟩ := hrel
          obtain ⟨yc, yf⟩ := bat hX.out w.heap.size xl
          obtain ⟨zc, zf⟩ := bat hX.out ab hwr2
          by_cases hkl : k < j
          · have hkl2 : k < al.length := by omega
            have hki : (k : Int) < j := by omega
            have hki2 : (k : Int) < al.length := by omega
            have e0 := hcl.out k hkl2
            have hdk := fun e => hdup.out k hkl2 hkl e
            have hDk := fun (e : (al[k]'hkl2).1 ≠ pn) m (hm : m < al.length) (h : m < k + 1) => (by
              by_cases q : m = k
              · subst q; exact e
              · exact hD.out m hm (by omega) : (al[m]'hm).1 ≠ pn)
            generalize (al[k]'hkl2).1 = pk at e0 hdk hDk
            replace hdk := Lib.hid hdk
            replace hDk := Lib.hid hDk
            have f0 : wr.drew.cell? ⟨ab, ao + k * 2, none⟩ = some (.string ⟨pk.toArray⟩) := (zc _).trans e0
            have f1 : wr.drew.cell? ⟨ab, ao + j * 2, none⟩ = some (.string ⟨pn.toArray⟩) := (zc _).trans b0.out
            have f2 : wr.drew.cell? ⟨w.heap.size, 2, none⟩ = some (.slice (some ⟨ab, ao, none⟩) al.length cap) := (yc _).trans (xc 2)
            go_wp2_with fail
            by_cases he : pk = pn
            · subst he
              have hRf := Lib.hid (hdk.out rfl)
              refine wp_region_float (by kernel_rfl) (by kernel_rfl) (fun W => W = wr.drew) rfl ?_
              simp only [List.toList_toArray]
              repeat (first
                | (apply Flo.val; · rfl
                   · (rintro W rfl; go_simp; with_reducible rfl)
                   simp only [Act.put, List.setIfInBounds_toArray, List.set_cons_zero, List.set_cons_succ])
                | fail)
              rintro W rfl
              go_wp2_with fail
              go_ret
              exact ⟨by rw [hRf.out]; rfl, (belowT hB2.out hX.out).drew⟩
            · have he2 : (pk == pn) = false := by simpa using he
              have hDn := Lib.hid (hDk.out he)
              clear he
              refine wp_region_float (by kernel_rfl) (by kernel_rfl) (fun W => W = wr.drew) rfl ?_
              simp only [List.toList_toArray]
              repeat (first
                | (apply Flo.val; · rfl
                   · (rintro W rfl; go_simp; with_reducible rfl)
                   simp only [Act.put, List.setIfInBounds_toArray, List.set_cons_zero, List.set_cons_succ])
                | fail)
              rintro W rfl
              go_wp2_with fail
              exact ⟨⟨k + 1, by omega, by simp, hDn, Lib.hid hX.out.drew⟩, by simp [intOf]; omega⟩
          · obtain rfl : k = j := by omega
            have hdn := hys2.out (hnd.out (fun m hm h => hD.out m hm h))
            have hdn2 := Lib.hid hdn.symm
            have hO3 := Lib.hid ((hX.out.block _ xl).trans hO2.out)
            go_wp2_with fail
            exact ⟨⟨k + 1, by omega, by simp, hdn2, hO3, Lib.hid (belowT hB2.out hX.out)⟩, by simp [intOf]; omega⟩
      · obtain rfl : j = al.length := by omega
        have hA2 := hA.out
        rw [List.drop_length] at hA2
        go_wp2_with fail
        go_ret
        exact ⟨by rw [← hA2]; rfl, hB.out⟩
  · have h8b : decide (8 < (al.length : Int)) = true := by simp; omega
    have hR : attrsP [] al = false := by
      cases ha : attrsP [] al with
      | false => rfl
      | true => have := (attrsP_each [] al ha (by simp)).1; simp at this; omega
    rw [hR]
    replace hR := Lib.hid hR
    go_enter Tryd.func24, Tryd.ntmps24
    go_wp2_with (go_at_call 35; refine (hN.out _).mono ?_; rintro e w1 ⟨rfl, rfl⟩)
    go_ret
    exact ⟨rfl, below1 _ _⟩
theorem refOne_any (tk : Tk) (sv : Value) (w : World) (h : AtS w sv tk.as) (hs : tk.small) (hU : U8T w) :
    Calls Tryd.prog 24 #[.agg (tkC tk sv)] w fun e w' => e = .returned (.bool (rightT tk)) ∧ Below w.heap.size w w' := by
  by_cases h1 : tk.k = 1
  · exact one_begin tk sv w h hs h1 hU
  by_cases h2 : tk.k = 2
  · exact one_end tk sv w h hs h2
  by_cases h3 : tk.k = 3
  · exact one_chars tk sv w h hs h3 hU
  · exact one_other tk sv w h ⟨h1, h2, h3⟩
end Go.Proofs.YtadahlffdhgapaaDoor
