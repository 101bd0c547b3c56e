/-
  The text of tokens, by the reference (heliographref04.Print). Conditions: no text beyond the reach; the library's tables are as they were laid.
-/
import Derived.Test.YtadahlffdhgapaaDoorRfRight
import Derived.Test.YtadahlffdhgapaaDoorRfEsc
import Derived.Test.YtadahlffdhgapaaDoorWrPrint
namespace Go.Proofs.YtadahlffdhgapaaDoor
set_option linter.unusedVariables false
set_option linter.unusedSimpArgs false
open Go.RowKit Go.MapKept
def adv (l : List Tk) (i : Nat) : Nat := if (l[i - 1]?.map Tk.k) = some 1 ∧ (l[i]?.map Tk.k) = some 2 then i + 1 else i
theorem adv_ne2 {l : List Tk} {i : Nat} (hi : i < l.length) (h : (l[i]'hi).k ≠ 2) : adv l i = i := by
  unfold adv; rw [if_neg]; rw [List.getElem?_eq_getElem hi]; simp [h]
theorem adv_ne1 {l : List Tk} {i : Nat} (hi : i < l.length) (h : (l[i]'hi).k ≠ 1) : adv l (i + 1) = i + 1 := by
  unfold adv; rw [if_neg]; rw [show i + 1 - 1 = i by omega, List.getElem?_eq_getElem hi]; simp [h]
theorem adv_12 {l : List Tk} {i : Nat} (hi : i + 1 < l.length) (h1 : (l[i]'(by omega)).k = 1) (h2 : (l[i + 1]'hi).k = 2) : adv l (i + 1) = i + 2 := by
  unfold adv; rw [if_pos]; rw [show i + 1 - 1 = i by omega, List.getElem?_eq_getElem hi, List.getElem?_eq_getElem (show i < l.length by omega)]; simp [h1, h2]
theorem adv_end (l : List Tk) : adv l l.length = l.length := by
  unfold adv; rw [if_neg]; simp
theorem adv_0 (l : List Tk) : adv l 0 = 0 := by
  unfold adv; rw [if_neg]; intro ⟨h1, h2⟩; rw [show 0 - 1 = 0 from rfl, h2] at h1; exact absurd h1 (by simp)
theorem right_first {l : List Tk} (h : opsTo l l.length = some []) (h0 : 0 < l.length) : (l[0]'h0).k ≠ 2 := by
  intro h2
  have h1 := opsTo_some (m := 1) (n := l.length) (by omega) (by rw [h]; rfl)
  rw [ops_step (i := 0) h0 (op := []) rfl] at h1
  unfold stepT at h1
  rw [h2] at h1
  split at h1 <;> simp at h1
structure AtR (w : World) (g : Nat) (cs : Array Value) (t : TypeId) (v : Value) (ab p : Nat) (x y : Value) (W : World) : Prop where
  o : W.heap[g]? = some (.cells cs t)
  c0 : W.cell? ⟨g, 2, none⟩ = some v
  c1 : W.cell? ⟨ab, p, none⟩ = some x
  c2 : W.cell? ⟨ab, p + 1, none⟩ = some y
  b : Below w.heap.size w W
theorem AtR.keep {w : World} {g : Nat} {cs : Array Value} {t : TypeId} {v : Value} {ab p : Nat} {x y : Value} {W W' : World} (h : AtR w g cs t v ab p x y W) (hb : Below W.heap.size W W') (hab : ab < w.heap.size) : AtR w g cs t v ab p x y W' := by
  obtain ⟨h1, h2, h3, h4, h5⟩ := h
  have hg : g < W.heap.size := (Array.getElem?_eq_some_iff.1 h1).1
  exact ⟨(hb.block g hg).trans h1, ((bat hb g hg).1 2).trans h2, ((bat hb ab (Nat.lt_of_lt_of_le hab h5.size)).1 _).trans h3, ((bat hb ab (Nat.lt_of_lt_of_le hab h5.size)).1 _).trans h4, belowT h5 hb⟩
theorem refPrint_bad (tv : Value) (tks : List Tk) (w : World) (hT : TkS w tv tks) (hsm : ∀ tk ∈ tks, tk.small) (hU : U8T w) (hr : rightL tks = false) :
    Calls Tryd.prog 7 #[tv] w fun e w' => e = .returned (.tuple #[.string ⟨#[]⟩, .int .i64 3]) ∧ Below w.heap.size w w' := by
  have hR := refRight_any tv tks w hT hsm hU
  obtain ⟨ptr, cap, rfl⟩ := hT.shape
  rw [hr] at hR
  go_enter Tryd.func7, Tryd.ntmps7
  go_wp2_with (go_at_call 10; refine hR.mono ?_; rintro e w1 ⟨rfl, hb1⟩)
  go_ret2
  exact ⟨rfl, hb1⟩
set_option maxRecDepth 100000 in
set_option maxHeartbeats 8000000 in
theorem refPrint_good (tv : Value) (tks : List Tk) (w : World) (hT : TkS w tv tks) (hsm : ∀ tk ∈ tks, tk.small) (hU : U8T w) (hr : rightL tks = true) :
    Calls Tryd.prog 7 #[tv] w fun e w' => e = .returned (.tuple #[.string ⟨(printR tks).toArray⟩, .int .i64 0]) ∧ Below w.heap.size w w' := by
  have hop : opsTo tks tks.length = some [] := by simp [rightL] at hr; exact hr.2
  have h64 : tks.length ≤ 64 := by simp [rightL] at hr; exact hr.1
  have hall := right_each (by rw [hop]; rfl : (opsTo tks tks.length).isSome = true)
  have hR := refRight_any tv tks w hT hsm hU
  rw [hr] at hR
  obtain ⟨ptr, cap, rfl, hcap, hcapm, htk⟩ := hT
  replace hop := Lib.hid hop
  replace hU := Lib.hid hU
  replace hsm := Lib.hid hsm
  replace htk := Lib.hid htk
  replace hall := Lib.hid hall
  clear hr
  go_enter Tryd.func7, Tryd.ntmps7
  go_wp2_with (go_at_call 10; refine hR.mono ?_; rintro e w1 ⟨rfl, hb1⟩; replace hb1 := Lib.hid hb1)
  go_loopw [4, 5] (fun s4 s5 wr => ∃ (k : Nat) (acc : List UInt8), k ≤ tks.length ∧ s5 = .int .i64 k ∧ s4 = .string ⟨acc.toArray⟩ ∧ Hid (Below w.heap.size w wr) ∧ Hid (acc ++ printR (tks.drop (adv tks k)) = printR tks) ∧ acc.length ≤ k * 100000) (fun _ s5 _ => tks.length - (intOf s5).toNat)
  case atStart =>
    exact ⟨0, [], Nat.zero_le _, rfl, rfl, hb1, Lib.hid (by rw [adv_0]; rfl), by simp⟩
  case round =>
    obtain ⟨k, acc, hk, rfl, rfl, hB, hP, hal⟩ := hrel
    by_cases hlt : k < tks.length
    · obtain ⟨b, o, rfl, hb, hc⟩ := htk.out (by omega)
      have hbr : b < wr.heap.size := Nat.lt_of_lt_of_le hb hB.out.size
      obtain ⟨sv, c0, c1, c2, c3, c4⟩ := hc k hlt
      have kc := fun (j : Nat) => hB.out.cell (p := ⟨b, j, none⟩) hb
      have d0 := (kc _).trans c0
      have d1 := (kc _).trans c1
      have d2 := (kc _).trans c2
      have d3 := (kc _).trans c3
      have hat := Lib.hid c4
      have hrt := hall.out k hlt
      obtain ⟨hz1, hz2, hz3, hz4⟩ := right_small hrt
      have hkind := right_kind hrt
      have hnext := right_next hop.out k hlt
      have hdrop := List.drop_eq_getElem_cons hlt
      have hcn : ∀ h : k + 1 < tks.length, w.cell? ⟨b, o + (k + 1) * 4, none⟩ = some (.int .u8 (tks[k + 1]'h).k) := fun h => by
        obtain ⟨_, e0, _⟩ := hc (k + 1) h
        exact e0
      have ha0 := adv_ne2 (l := tks) hlt
      have ha1 := adv_ne1 (l := tks) hlt
      have ha2 : ∀ h : k + 1 < tks.length, (tks[k]'hlt).k = 1 → (tks[k + 1]'h).k = 2 → adv tks (k + 1) = k + 2 := fun h h1 h2 => adv_12 h h1 h2
      have ha3 := fun h => adv_ne2 (l := tks) (i := k + 1) h
      have hpr : (tks[k]'hlt).k = 2 → ∃ m pk, k = m + 1 ∧ w.cell? ⟨b, o + m * 4, none⟩ = some (.int .u8 pk) ∧ (pk = 1 → adv tks k = k + 1) ∧ (pk ≠ 1 → adv tks k = k) := fun h2 => by
        obtain ⟨m, rfl⟩ : ∃ m, k = m + 1 := by
          cases k with
          | zero => exact absurd h2 (right_first hop.out hlt)
          | succ m => exact ⟨m, rfl⟩
        obtain ⟨_, e0, _⟩ := hc m (by omega)
        exact ⟨m, _, rfl, e0, fun h1 => adv_12 hlt h1 h2, fun h1 => adv_ne1 (by omega) h1⟩
      clear c0 c1 c2 c3 c4 kc hc hrt
      revert d0 d1 d2 d3 hat hz1 hz2 hz3 hz4 hkind hnext hdrop ha0 ha1 ha2 ha3 hpr
      generalize tks[k] = tk
      obtain ⟨tkk, tn, ta, tt⟩ := tk
      intro d0 d1 d2 d3 hat hz1 hz2 hz3 hz4 hkind hnext hdrop ha0 ha1 ha2 ha3 hpr
      simp only at d0 d1 d2 d3 hat hz1 hz2 hz3 hz4 hkind hnext ha0 ha1 ha2 hpr
      obtain ⟨ap, ac, rfl⟩ : ∃ a c, sv = .slice a ta.length c := by obtain ⟨a, c, h, -⟩ := hat.out; exact ⟨a, c, h⟩
      rcases hkind with hk1 | hk2 | hk3
      · subst hk1
        have hk1l := hnext rfl
        have ha0' := ha0 (by decide)
        obtain ⟨nk, hnk, hcn'⟩ : ∃ nk : Int, nk = (tks[k + 1]'hk1l).k ∧ w.cell? ⟨b, o + (k + 1) * 4, none⟩ = some (.int .u8 nk) := ⟨_, rfl, hcn hk1l⟩
        replace hcn' := Lib.hid hcn'
        have ha2' := ha2 hk1l rfl
        have ha3' := ha3 hk1l
        rw [← hnk] at ha2' ha3'
        have hdrop2 := List.drop_eq_getElem_cons hk1l
        have hpr2 : nk = 2 → printR (tks.drop k) = ([60] ++ tn) ++ atsL ta ++ [47] ++ [62] ++ printR (tks.drop (k + 2)) := fun hn => by
          rw [hdrop, hdrop2, print_beg, if_pos (hnk.symm.trans hn)]
          simp only [List.append_assoc]
        have hpr3 : nk ≠ 2 → printR (tks.drop k) = ([60] ++ tn) ++ atsL ta ++ [62] ++ printR (tks.drop (k + 1)) := fun hn => by
          rw [hdrop, hdrop2, print_beg, if_neg (by rw [← hnk]; exact hn)]
          simp only [List.append_assoc]
        rw [ha0'] at hP
        replace hpr2 := Lib.hid hpr2
        replace hpr3 := Lib.hid hpr3
        replace ha2' := Lib.hid ha2'
        replace ha3' := Lib.hid ha3'
        replace ha0' := Lib.hid ha0'
        clear hcn hnext ha0 ha1 ha2 ha3 hpr hdrop hdrop2 hnk
        have o1 : ¬ 9223372036854775807 < 1 + tn.length := by omega
        have o2 : ¬ 9223372036854775807 < acc.length + (1 + tn.length) := by omega
        go_wp2_with fail
        have hO0 : Hid ((wr.alloc (.cells #[.int .u8 1, .string ⟨tn.toArray⟩, .slice ap ta.length ac, .string ⟨tt.toArray⟩] 42)).heap[wr.heap.size]? = some (.cells #[.int .u8 1, .string ⟨tn.toArray⟩, .slice ap ta.length ac, .string ⟨tt.toArray⟩] 42)) := Lib.hid (heap_alloc _ _).1
        have hB0 := Lib.hid (belowT hB.out (below1 wr (.cells #[.int .u8 1, .string ⟨tn.toArray⟩, .slice ap ta.length ac, .string ⟨tt.toArray⟩] 42)))
        generalize wr.heap.size = g at hO0 ⊢
        go_loopw [4, 7] (fun s4 s7 wi => ∃ (j : Nat), j ≤ ta.length ∧ s7 = .int .i64 j ∧ s4 = .string ⟨(acc ++ ([60] ++ tn) ++ atsL (ta.take j)).toArray⟩ ∧ Hid (wi.heap[g]? = some (.cells #[.int .u8 1, .string ⟨tn.toArray⟩, .slice ap ta.length ac, .string ⟨tt.toArray⟩] 42)) ∧ Hid (Below w.heap.size w wi)) (fun _ s7 _ => ta.length - (intOf s7).toNat)
        case atStart => exact ⟨0, Nat.zero_le _, rfl, (by show Value.string (ByteArray.mk acc.toArray ++ (ByteArray.mk [60].toArray ++ ByteArray.mk tn.toArray)) = _; rw [bcat, bcat]; simp [atsL]), hO0, hB0⟩
        case round =>
          obtain ⟨j, hj, rfl, rfl, hO, hB3⟩ := hrel
          obtain ⟨xc, xf, xl⟩ := obj_cells hO.out
          have f2 : wr.cell? ⟨g, 2, none⟩ = some (.slice ap ta.length ac) := xc 2
          by_cases hjl : j < ta.length
          · obtain ⟨ap', ac', hape, hac, hacm, hcells⟩ := hat.out
            injection hape with hape1 hape2 hape3
            subst hape1 hape3
            obtain ⟨ab, ao, rfl, hab, hcc⟩ := hcells (by omega)
            have e1 := (hB3.out.cell (p := ⟨ab, ao + j * 2, none⟩) hab).trans (hcc j hjl).1
            have e2 := (hB3.out.cell (p := ⟨ab, ao + j * 2 + 1, none⟩) hab).trans (hcc j hjl).2
            have hsz := hz4 _ (List.getElem_mem hjl)
            have hsn := atsL_snoc ta j hjl
            clear hcc hcells
            revert e1 e2 hsz hsn
            generalize ta[j] = at1
            obtain ⟨x, y⟩ := at1
            intro e1 e2 hsz hsn
            simp only at e1 e2 hsz hsn
            have hel := escL_len y
            have hcat := Lib.hid (atP_cat x y)
            have hltk := atsL_take hz4 j
            have hAl : (acc ++ ([60] ++ tn) ++ atsL (ta.take j)).length ≤ 90000000 := by simp; omega
            have hsn2 : acc ++ ([60] ++ tn) ++ atsL (ta.take (j + 1)) = acc ++ ([60] ++ tn) ++ atsL (ta.take j) ++ atP (x, y) := by rw [hsn, List.append_assoc _ _ (atP (x, y))]
            replace hsn2 := Lib.hid hsn2
            clear hsn hltk
            generalize acc ++ ([60] ++ tn) ++ atsL (ta.take j) = A at hAl hsn2 ⊢
            have n1 : ¬ 9223372036854775807 < 1 + x.length := by omega
            have n2 : ¬ 9223372036854775807 < 1 + x.length + 2 := by omega
            have n3 : ¬ 9223372036854775807 < 1 + x.length + 2 + (escL y).length := by omega
            have n4 : ¬ 9223372036854775807 < 1 + x.length + 2 + (escL y).length + 1 := by omega
            have n5 : ¬ 9223372036854775807 < A.length + (1 + x.length + 2 + (escL y).length + 1) := by omega
            have hS0 : Hid (AtR w g #[.int .u8 1, .string ⟨tn.toArray⟩, .slice (some ⟨ab, ao, none⟩) ta.length ac, .string ⟨tt.toArray⟩] 42 (.slice (some ⟨ab, ao, none⟩) ta.length ac) ab (ao + j * 2) (.string ⟨x.toArray⟩) (.string ⟨y.toArray⟩) wr.drew) := Lib.hid ⟨hO.out, f2, e1, e2, hB3.out.drew⟩
            go_wp2_with fail
            refine wp_region_float (by kernel_rfl) (by kernel_rfl) (fun W => AtR w g #[.int .u8 1, .string ⟨tn.toArray⟩, .slice (some ⟨ab, ao, none⟩) ta.length ac, .string ⟨tt.toArray⟩] 42 (.slice (some ⟨ab, ao, none⟩) ta.length ac) ab (ao + j * 2) (.string ⟨x.toArray⟩) (.string ⟨y.toArray⟩) W) hS0.out ?_
            simp only [List.toList_toArray]
            repeat (first
              | (apply Flo.val; · rfl
                 · (intro W hSw; obtain ⟨h1, h2, h3, h4, h5⟩ := hSw; go_simp; with_reducible rfl)
                 simp only [Act.put, List.setIfInBounds_toArray, List.set_cons_zero, List.set_cons_succ])
              | (apply Flo.call; · rfl
                 · (intro W hSw; go_simp; first | exact ⟨rfl, rfl⟩ | with_reducible rfl)
                 · (intro W hSw; go_at_call 21; exact (refEscape_any y W (by omega)).mono (fun e w'' h => ⟨h.1, hSw.keep h.2 hab⟩))
                 simp only [Act.put, List.setIfInBounds_toArray, List.set_cons_zero, List.set_cons_succ])
              | fail)
            intro W hSw
            go_wp2_with fail
            exact ⟨⟨j + 1, by omega, by simp, by rw [hcat.out, bcat, hsn2.out], Lib.hid hSw.o, Lib.hid hSw.b⟩, by simp [intOf]; omega⟩
          · obtain rfl : j = ta.length := by omega
            rw [List.take_length]
            have e1 := (hB3.out.cell (p := ⟨b, o + (k + 1) * 4, none⟩) hb).trans hcn'.out
            have hlat := atsL_take hz4 ta.length
            rw [List.take_length] at hlat
            have hAl : (acc ++ ([60] ++ tn) ++ atsL ta).length ≤ acc.length + 50000 := by simp; omega
            by_cases hn2 : nk = 2
            · subst hn2
              have hq := hpr2.out rfl
              have hP2 : Hid (acc ++ ([60] ++ tn) ++ atsL ta ++ [47] ++ [62] ++ printR (tks.drop (adv tks (k + 1))) = printR tks) := Lib.hid (by rw [ha2'.out rfl, ← hP.out, hq]; simp only [List.append_assoc])
              clear hq
              generalize acc ++ ([60] ++ tn) ++ atsL ta = A at hAl hP2 ⊢
              go_wp2_with fail
              exact ⟨⟨k + 1, A ++ [47] ++ [62], by omega, by simp, (by show Value.string (ByteArray.mk A.toArray ++ ByteArray.mk [47].toArray ++ ByteArray.mk [62].toArray) = _; rw [bcat, bcat]), hB3, hP2, by simp; omega⟩, by simp [intOf]; omega⟩
            · have hq := hpr3.out hn2
              have hP2 : Hid (acc ++ ([60] ++ tn) ++ atsL ta ++ [62] ++ printR (tks.drop (adv tks (k + 1))) = printR tks) := Lib.hid (by rw [ha3'.out hn2, ← hP.out, hq]; simp only [List.append_assoc])
              clear hq
              have hn2b : (nk == 2) = false := by simpa using hn2
              generalize acc ++ ([60] ++ tn) ++ atsL ta = A at hAl hP2 ⊢
              go_wp2_with fail
              exact ⟨⟨k + 1, A ++ [62], by omega, by simp, (by show Value.string (ByteArray.mk A.toArray ++ ByteArray.mk [62].toArray) = _; rw [bcat]), hB3, hP2, by simp; omega⟩, by simp [intOf]; omega⟩
      · subst hk2
        obtain ⟨m, pk, rfl, hcp, hs1, hs2⟩ := hpr rfl
        have e1 := (hB.out.cell (p := ⟨b, o + m * 4, none⟩) hb).trans hcp
        have hpe : printR (tks.drop (m + 1)) = ([60, 47] ++ tn ++ [62]) ++ printR (tks.drop (m + 1 + 1)) := by rw [hdrop]; exact print_end tn ta tt _
        have ha1' := ha1 (by decide)
        clear hcn hnext ha0 ha1 ha2 ha3 hpr hdrop hcp
        have i1 : ((m + 1 : Nat) : Int) = (m : Int) + 1 := by omega
        by_cases hp1 : pk = 1
        · subst hp1
          have hP2 : Hid (acc ++ printR (tks.drop (adv tks (m + 1 + 1))) = printR tks) := Lib.hid (by rw [ha1', ← hP.out, hs1 rfl])
          clear hs1 hs2 hpe hP ha1'
          go_wp2_with fail
          exact ⟨⟨m + 1 + 1, acc, by omega, by simp, rfl, Lib.hid (belowT hB.out (below1 _ _)), hP2, Nat.le_trans hal (Nat.mul_le_mul_right _ (Nat.le_succ _))⟩, by simp [intOf]; omega⟩
        · have hP2 : Hid (acc ++ ([60, 47] ++ tn ++ [62]) ++ printR (tks.drop (adv tks (m + 1 + 1))) = printR tks) := Lib.hid (by rw [ha1', ← hP.out, hs2 hp1, hpe]; simp only [List.append_assoc])
          have hp1b : (pk == 1) = false := by simpa using hp1
          clear hs1 hs2 hpe hP hp1 ha1'
          go_wp2_with fail
          exact ⟨⟨m + 1 + 1, acc ++ ([60, 47] ++ tn ++ [62]), by omega, by simp, (by show Value.string (ByteArray.mk acc.toArray ++ (ByteArray.mk [60, 47].toArray ++ ByteArray.mk tn.toArray ++ ByteArray.mk [62].toArray)) = _; rw [bcat, bcat, bcat]), Lib.hid (belowT hB.out (below1 _ _)), hP2, by simp; omega⟩, by simp [intOf]; omega⟩
      · subst hk3
        have ha0' := ha0 (by decide)
        have ha1' := ha1 (by decide)
        have hpe : printR (tks.drop k) = escL tt ++ printR (tks.drop (k + 1)) := by rw [hdrop]; exact print_text tn ta tt _
        have hP2 : Hid (acc ++ escL tt ++ printR (tks.drop (adv tks (k + 1))) = printR tks) := Lib.hid (by rw [ha1', ← hP.out, ha0', hpe, ← List.append_assoc])
        have hel := escL_len tt
        clear hcn hnext ha0 ha1 ha2 ha3 hpr hdrop hpe hP ha0' ha1'
        go_wp2_with (go_at_call 21; refine (refEscape_any tt _ (by omega)).mono ?_; rintro e w3 ⟨rfl, hb3⟩)
        exact ⟨⟨k + 1, acc ++ escL tt, by omega, by simp, (by rw [bcat]), Lib.hid (belowT (belowT hB.out (below1 _ _)) hb3), hP2, by simp; omega⟩, by simp [intOf]; omega⟩
    · have hke : k = tks.length := by omega
      have hd : acc = printR tks := by
        have h := hP.out
        rw [hke, adv_end, List.drop_length] at h
        simpa [printR] using h
      subst hd
      go_wp2_with fail
      go_ret2
      exact ⟨rfl, hB.out⟩
end Go.Proofs.YtadahlffdhgapaaDoor
