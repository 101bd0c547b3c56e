/-
  Which tokens are right by themselves (write.right). Condition: no text beyond the reach.
-/
import Derived.Test.YtjpdadibeocpfaaDoorWrTok
import Derived.Test.YtjpdadibeocpfaaDoorTxA
import Derived.Test.YtjpdadibeocpfaaDoorFloat
namespace Go.Proofs.YtjpdadibeocpfaaDoor
set_option linter.unusedVariables false
set_option linter.unusedSimpArgs false
open Go.RowKit Go.MapKept
/-- are these attributes right behind those names? -/
def attrsP (seen : List (List UInt8)) : Ats → Bool
  | [] => true
  | p :: r => !seen.contains p.1 && nameP p.1 && fitsP p.2 && decide (seen.length < 8) && attrsP (seen ++ [p.1]) r
/-- has a token just what its kind names? -/
def rightT (tk : Tk) : Bool :=
  if tk.k = 3 then tk.n == [] && tk.as.isEmpty && !(tk.t == []) && fitsP tk.t
  else if tk.k = 2 then nameP tk.n && tk.t == [] && tk.as.isEmpty
  else if tk.k = 1 then attrsP [] tk.as && nameP tk.n && tk.t == []
  else false
theorem right_end (tk : Tk) (sv : Value) (w : World) (h : AtS w sv tk.as) (hs : tk.small) (hk : tk.k = 2) :
    Calls Tryd.prog 42 #[.agg (tkC tk sv)] w fun e w' => e = .returned (.bool (rightT tk)) ∧ Below w.heap.size w w' := by
  obtain ⟨k, n, al, t⟩ := tk
  obtain ⟨hn, ht, has, hall⟩ := hs
  obtain ⟨ptr, cap, rfl, hcap, hcapm, hat⟩ := h
  simp only at hn ht has hall hk hcap hat
  have he : ((al.length : Int) == 0) = al.isEmpty := by cases al with | nil => rfl | cons a r => (rw [beq_eq_false_iff_ne.2 (by simp; omega)]; rfl)
  subst hk
  have hr : rightT ⟨2, n, al, t⟩ = (nameP n && (t == []) && al.isEmpty) := by simp [rightT]
  rw [hr]
  unfold tkC
  go_enter Tryd.func42, Tryd.ntmps42
  go_wp2_with fail
  refine wp_region_float (by kernel_rfl) (by kernel_rfl) (fun W => W = (w.alloc (.cells #[.int .u8 2, .string ⟨n.toArray⟩, .slice ptr al.length cap, .string ⟨t.toArray⟩] 35)).drew) rfl ?_
  simp only [List.toList_toArray]
  repeat (first
    | (apply Flo.skip; · rfl
       simp only [Act.put, List.setIfInBounds_toArray, List.set_cons_zero, List.set_cons_succ])
    | (apply Flo.val; · rfl
       · (rintro W rfl; go_simp; with_reducible rfl)
       simp only [Act.put, List.setIfInBounds_toArray, List.set_cons_zero, List.set_cons_succ])
    | (apply Flo.call; · rfl
       · (rintro W rfl; go_simp; first | exact ⟨rfl, rfl⟩ | with_reducible rfl)
       · (rintro W rfl; go_at_call 56; exact (textName_any n _ hn).mono (fun e w'' h => ⟨h.1, h.2.symm⟩))
       simp only [Act.put, List.setIfInBounds_toArray, List.set_cons_zero, List.set_cons_succ])
    | fail)
  rintro W rfl
  cases hnm : nameP n <;> cases htm : (t == [])
  all_goals go_wp2
  all_goals (go_ret; exact ⟨ret_bool (by simp_all), (below1 w _).drew⟩)
theorem right_none (tk : Tk) (sv : Value) (w : World) (h : AtS w sv tk.as) (hs : tk.small) (hk : tk.k ≠ 1 ∧ tk.k ≠ 2 ∧ tk.k ≠ 3) :
    Calls Tryd.prog 42 #[.agg (tkC tk sv)] w fun e w' => e = .returned (.bool (rightT tk)) ∧ Below w.heap.size w w' := by
  obtain ⟨k, n, al, t⟩ := tk
  obtain ⟨hn, ht, has, hall⟩ := hs
  obtain ⟨ptr, cap, rfl, hcap, hcapm, hat⟩ := h
  simp only at hn ht has hall hcap hat
  have he : ((al.length : Int) == 0) = al.isEmpty := by cases al with | nil => rfl | cons a r => (rw [beq_eq_false_iff_ne.2 (by simp; omega)]; rfl)
  obtain ⟨hk1, hk2, hk3⟩ := hk
  simp only at hk1 hk2 hk3
  have hr : rightT ⟨k, n, al, t⟩ = false := by simp [rightT, hk1, hk2, hk3]
  have e1 : (k == 1) = false := by rw [beq_eq_false_iff_ne]; exact hk1
  have e2 : (k == 2) = false := by rw [beq_eq_false_iff_ne]; exact hk2
  have e3 : (k == 3) = false := by rw [beq_eq_false_iff_ne]; exact hk3
  rw [hr]
  unfold tkC
  go_enter Tryd.func42, Tryd.ntmps42
  go_wp2_with fail
  refine wp_region_float (by kernel_rfl) (by kernel_rfl) (fun W => W = (w.alloc (.cells #[.int .u8 k, .string ⟨n.toArray⟩, .slice ptr al.length cap, .string ⟨t.toArray⟩] 35)).drew) rfl ?_
  simp only [List.toList_toArray]
  repeat (first
    | (apply Flo.skip; · rfl
       simp only [Act.put, List.setIfInBounds_toArray, List.set_cons_zero, List.set_cons_succ])
    | (apply Flo.val; · rfl
       · (rintro W rfl; go_simp; with_reducible rfl)
       simp only [Act.put, List.setIfInBounds_toArray, List.set_cons_zero, List.set_cons_succ])
    | (apply Flo.call; · rfl
       · (rintro W rfl; go_simp; first | exact ⟨rfl, rfl⟩ | with_reducible rfl)
       · (rintro W rfl; go_at_call 56; exact (textName_any n _ hn).mono (fun e w'' h => ⟨h.1, h.2.symm⟩))
       simp only [Act.put, List.setIfInBounds_toArray, List.set_cons_zero, List.set_cons_succ])
    | fail)
  rintro W rfl
  go_wp2
  go_ret
  exact ⟨rfl, (below1 w _).drew⟩
theorem right_chars (tk : Tk) (sv : Value) (w : World) (h : AtS w sv tk.as) (hs : tk.small) (hk : tk.k = 3) :
    Calls Tryd.prog 42 #[.agg (tkC tk sv)] w fun e w' => e = .returned (.bool (rightT tk)) ∧ Below w.heap.size w w' := by
  obtain ⟨k, n, al, t⟩ := tk
  obtain ⟨hn, ht, has, hall⟩ := hs
  obtain ⟨ptr, cap, rfl, hcap, hcapm, hat⟩ := h
  simp only at hn ht has hall hk hcap hat
  have he : ((al.length : Int) == 0) = al.isEmpty := by cases al with | nil => rfl | cons a r => (rw [beq_eq_false_iff_ne.2 (by simp; omega)]; rfl)
  subst hk
  have hr : rightT ⟨3, n, al, t⟩ = ((n == []) && al.isEmpty && !(t == []) && fitsP t) := by simp [rightT]
  rw [hr]
  unfold tkC
  go_enter Tryd.func42, Tryd.ntmps42
  go_wp2_with fail
  refine wp_region_float (by kernel_rfl) (by kernel_rfl) (fun W => W = (w.alloc (.cells #[.int .u8 3, .string ⟨n.toArray⟩, .slice ptr al.length cap, .string ⟨t.toArray⟩] 35)).drew) rfl ?_
  simp only [List.toList_toArray]
  repeat (first
    | (apply Flo.skip; · rfl
       simp only [Act.put, List.setIfInBounds_toArray, List.set_cons_zero, List.set_cons_succ])
    | (apply Flo.val; · rfl
       · (rintro W rfl; go_simp; with_reducible rfl)
       simp only [Act.put, List.setIfInBounds_toArray, List.set_cons_zero, List.set_cons_succ])
    | (apply Flo.call; · rfl
       · (rintro W rfl; go_simp; first | exact ⟨rfl, rfl⟩ | with_reducible rfl)
       · (rintro W rfl; go_at_call 56; exact (textName_any n _ hn).mono (fun e w'' h => ⟨h.1, h.2.symm⟩))
       simp only [Act.put, List.setIfInBounds_toArray, List.set_cons_zero, List.set_cons_succ])
    | fail)
  rintro W rfl
  cases hnm : (n == [])
  · go_wp2
    go_ret
    exact ⟨ret_bool (by simp_all), (below1 w _).drew⟩
  cases hal : al.isEmpty
  · rw [hal] at he
    go_wp2
    go_ret
    exact ⟨ret_bool (by simp_all), (below1 w _).drew⟩
  rw [hal] at he
  have hte : (t == []) = t.isEmpty := by cases t <;> rfl
  cases htm : t.isEmpty
  · go_wp2_with (go_at_call 57; refine (fits_any t _ ht).mono ?_; rintro e w1 ⟨rfl, hb1⟩)
    go_ret
    exact ⟨ret_bool (by simp_all), belowT ((below1 w _).drew) hb1⟩
  · go_wp2
    go_ret
    exact ⟨ret_bool (by simp_all), (below1 w _).drew⟩

theorem attrsP_step {seen : List (List UInt8)} {al : Ats} {j : Nat} (h : j < al.length) : attrsP seen (al.drop j) = (!seen.contains (al[j]'h).1 && nameP (al[j]'h).1 && fitsP (al[j]'h).2 && decide (seen.length < 8) && attrsP (seen ++ [(al[j]'h).1]) (al.drop (j + 1))) := by
  rw [List.drop_eq_getElem_cons h, attrsP]
def seenOf (al : Ats) (j : Nat) : List (List UInt8) := (al.take j).map (·.1)
theorem seenOf_snoc {al : Ats} {j : Nat} (h : j < al.length) : seenOf al (j + 1) = seenOf al j ++ [(al[j]'h).1] := by
  unfold seenOf
  rw [List.take_succ_eq_append_getElem h, List.map_append, List.map_cons, List.map_nil]
theorem seenOf_len {al : Ats} {j : Nat} (h : j ≤ al.length) : (seenOf al j).length = j := by simp [seenOf, h]
theorem boolZero (w : World) : (zeroValue 4).run Tryd.prog w = .ok (.bool false) w := by kernel_rfl
set_option maxHeartbeats 4000000 in
theorem right_begin (tk : Tk) (sv : Value) (w : World) (h : AtS w sv tk.as) (hs : tk.small) (hk : tk.k = 1) :
    Calls Tryd.prog 42 #[.agg (tkC tk sv)] w fun e w' => e = .returned (.bool (rightT tk)) ∧ Below w.heap.size w w' := by
  obtain ⟨k, n, al, t⟩ := tk
  obtain ⟨hn, ht, has, hall⟩ := hs
  obtain ⟨ptr, cap, rfl, hcap, hcapm, hat⟩ := h
  simp only at hn ht has hall hk hcap hat
  have he : ((al.length : Int) == 0) = al.isEmpty := by cases al with | nil => rfl | cons a r => (rw [beq_eq_false_iff_ne.2 (by simp; omega)]; rfl)
  subst hk
  have hr : rightT ⟨1, n, al, t⟩ = (attrsP [] al && nameP n && t.isEmpty) := by simp [rightT]
  rw [hr]
  clear hr he
  have hmm := @run_makeMap Tryd.prog
  unfold tkC
  go_enter Tryd.func42, Tryd.ntmps42
  go_wp2_with fail
  refine wp_region_float (by kernel_rfl) (by kernel_rfl) (fun W => W = (w.alloc (.cells #[.int .u8 1, .string ⟨n.toArray⟩, .slice ptr al.length cap, .string ⟨t.toArray⟩] 35)).drew) rfl ?_
  simp only [List.toList_toArray]
  repeat (first
    | (apply Flo.skip; · rfl
       simp only [Act.put, List.setIfInBounds_toArray, List.set_cons_zero, List.set_cons_succ])
    | (apply Flo.val; · rfl
       · (rintro W rfl; go_simp; with_reducible rfl)
       simp only [Act.put, List.setIfInBounds_toArray, List.set_cons_zero, List.set_cons_succ])
    | (apply Flo.call; · rfl
       · (rintro W rfl; go_simp; first | exact ⟨rfl, rfl⟩ | with_reducible rfl)
       · (rintro W rfl; go_at_call 56; exact (textName_any n _ hn).mono (fun e w'' h => ⟨h.1, h.2.symm⟩))
       simp only [Act.put, List.setIfInBounds_toArray, List.set_cons_zero, List.set_cons_succ])
    | fail)
  rintro W rfl
  go_wp2
  go_loopw [54] (fun i wr => ∃ j : Nat, j ≤ al.length ∧ i = .int .i64 j ∧ Hid (Ents wr (w.heap.size + 1) (setKV (seenOf al j))) ∧ Hid (Below w.heap.size w wr) ∧ Hid (attrsP [] al = attrsP (seenOf al j) (al.drop j)) ∧ w.heap.size + 2 ≤ wr.heap.size) (fun i _ => al.length - (intOf i).toNat)
  case atStart =>
    refine ⟨0, Nat.zero_le _, rfl, ?_, ?_, ?_, by simp⟩
    · have h0 := Ents.made (w.alloc (.cells #[.int .u8 1, .string ⟨n.toArray⟩, .slice ptr al.length cap, .string ⟨t.toArray⟩] 35))
      rw [World.size_alloc] at h0
      exact h0
    · exact (((below1 w _).drew).alloc (by simp) _)
    · rfl
  case round =>
    obtain ⟨j, hj, rfl, hE, hB, hA, hS⟩ := hrel
    by_cases hlt : j < al.length
    · obtain ⟨b, o, rfl, hb, hc⟩ := hat (by omega)
      obtain ⟨c0, c1⟩ := hc j hlt
      have k0 := ((bat hB b hb).1 (o + j * 2)).trans c0
      have k1 := ((bat hB b hb).1 (o + j * 2 + 1)).trans c1
      rw [attrsP_step hlt] at hA
      have hA := hA.out
      obtain ⟨hp1, hp2⟩ := hall al[j] (List.getElem_mem hlt)
      have hsn := seenOf_snoc hlt
      revert k0 k1 hA hp1 hp2 hsn
      generalize al[j] = p
      obtain ⟨pn, pv⟩ := p
      intro k0 k1 hA hp1 hp2 hsn
      simp only at k0 k1 hA hp1 hp2 hsn
      have hE1 := hE.alloc (.cells #[.string ⟨pn.toArray⟩, .string ⟨pv.toArray⟩] 39)
      have hB1 := belowA hB (.cells #[.string ⟨pn.toArray⟩, .string ⟨pv.toArray⟩] 39)
      have hlook := lookup_ents (P := Tryd.prog) false Tryd.underlying110 Tryd.underlying9 (boolZero _) hE1 (set_keys _) (key := .string ⟨pn.toArray⟩) trivial
      rw [find_set] at hlook
      cases hc1 : (seenOf al j).contains pn
      · rw [hc1] at hlook
        simp only [Bool.false_eq_true, if_false, Option.getD_none] at hlook
        have hkvl : (setKV (seenOf al j)).length = j := by simp [setKV, seenOf_len hj]
        have hsl := seenOf_len hj
        cases hN : nameP pn
        · go_wp2_with (go_at_call 56; refine (textName_any pn _ hp1).mono ?_; rintro e w2 ⟨rfl, rfl⟩; rw [hN])
          go_ret
          exact ⟨ret_bool (by rw [hA, hN]; simp), hB1⟩
        cases hF : fitsP pv
        · go_wp2_with (first
            | (go_at_call 56; refine (textName_any pn _ hp1).mono ?_; rintro e w2 ⟨rfl, rfl⟩; rw [hN])
            | (go_at_call 57; refine (fits_any pv _ hp2).mono ?_; rintro e w3 ⟨rfl, hb3⟩; rw [hF]))
          go_ret
          exact ⟨ret_bool (by rw [hA, hF]; simp), belowT hB1 hb3⟩
        by_cases h8 : j < 8
        · have b8 : decide ((8 : Int) ≤ (j : Int)) = false := by simp; omega
          go_wp2_with (first
            | (go_at_call 56; refine (textName_any pn _ hp1).mono ?_; rintro e w2 ⟨rfl, rfl⟩; rw [hN])
            | (go_at_call 57; refine (fits_any pv _ hp2).mono ?_
               rintro e w3 ⟨rfl, hb3⟩
               rw [hF]
               have hE3 := hE1.below hb3
               have hcell := (bat hb3 wr.heap.size (by simp)).1
               have hlen3 := len_ents (P := Tryd.prog) Tryd.underlying110 hE3
               rw [hkvl] at hlen3
               have hS3 := hb3.size
               simp only [World.size_alloc] at hS3
               have hc0 := (hcell 0).trans (show _ = some (.string ⟨pn.toArray⟩) by simp)
               obtain ⟨w4, hst, hE4, hT4⟩ := store_ents (P := Tryd.prog) Tryd.underlying110 Tryd.underlying9 hE3 (set_keys _) (key := .string ⟨pn.toArray⟩) trivial (by rw [find_set, hc1]; rfl) (.bool true)))
          go_roundw
          case rel =>
            refine ⟨j + 1, by omega, by go_num, ?_, hT4.below (belowT hB1 hb3) (by omega), ?_, by rw [hT4.size]; omega⟩
            · rw [hsn]
              show Ents w4 _ (setKV (seenOf al j ++ [pn]))
              rw [setKV, List.map_append]
              exact hE4
            · rw [hsn]
              show attrsP [] al = _
              rw [hA, hc1, hN, hF, hsl]
              simp [h8]
          case measure => simp [intOf]; omega
        · have b8 : decide ((8 : Int) ≤ (j : Int)) = true := by simp; omega
          go_wp2_with (first
            | (go_at_call 56; refine (textName_any pn _ hp1).mono ?_; rintro e w2 ⟨rfl, rfl⟩; rw [hN])
            | (go_at_call 57; refine (fits_any pv _ hp2).mono ?_
               rintro e w3 ⟨rfl, hb3⟩
               rw [hF]
               have hE3 := hE1.below hb3
               have hlen3 := len_ents (P := Tryd.prog) Tryd.underlying110 hE3
               rw [hkvl] at hlen3))
          go_ret
          exact ⟨ret_bool (by rw [hA, hsl]; simp [h8]), belowT hB1 hb3⟩
      · rw [hc1] at hlook
        simp only [Bool.false_eq_true, if_true, if_false, Option.getD_some] at hlook
        go_wp2
        go_ret
        exact ⟨ret_bool (by rw [hA, hc1]; simp), hB1⟩
    · have hd : al.drop j = [] := List.drop_of_length_le (by omega)
      rw [hd] at hA
      have hA2 : attrsP [] al = true := hA.out
      rw [hA2]
      cases hnm : nameP n
      all_goals go_wp2
      all_goals (go_ret; exact ⟨ret_bool (by simp_all), hB⟩)
theorem right_any (tk : Tk) (sv : Value) (w : World) (h : AtS w sv tk.as) (hs : tk.small) :
    Calls Tryd.prog 42 #[.agg (tkC tk sv)] w fun e w' => e = .returned (.bool (rightT tk)) ∧ Below w.heap.size w w' := by
  by_cases h1 : tk.k = 1
  · exact right_begin tk sv w h hs h1
  by_cases h2 : tk.k = 2
  · exact right_end tk sv w h hs h2
  by_cases h3 : tk.k = 3
  · exact right_chars tk sv w h hs h3
  exact right_none tk sv w h hs ⟨h1, h2, h3⟩
end Go.Proofs.YtjpdadibeocpfaaDoor
