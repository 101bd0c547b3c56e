/-
  Whether a stanza is right, by the program. Condition: no text beyond the reach, at most 1000 tokens.
-/
import Derived.Test.YtcfkegfddiglcaaDoorStTok
import Derived.Test.YtcfkegfddiglcaaDoorJidWalks4
import Derived.Test.YtcfkegfddiglcaaDoorTxA
namespace Go.Proofs.YtcfkegfddiglcaaDoor
set_option linter.unusedVariables false
set_option linter.unusedSimpArgs false
open Go.RowKit Go.MapKept
def Sz.small (z : Sz) : Prop := (z.ty.length ≤ 140737488351232 ∧ z.fr.length ≤ 140737488351232 ∧ z.tt.length ≤ 140737488351232 ∧ z.id.length ≤ 140737488351232) ∧ z.pl.length ≤ 1000 ∧ ∀ tk ∈ z.pl, tk.small ∧ tk.as.length * 32 ≤ 140737488351232
theorem tokens_small {z : Sz} (h : z.small) : ∀ tk ∈ tokensZ z, tk.small := by
  obtain ⟨⟨h1, h2, h3, h4⟩, h5, h6⟩ := h
  have hn : (nameK z.k).length ≤ 8 := by unfold nameK; split; · simp
                                         · split; · simp [iqL]
                                           · split <;> simp [msgL, preL]
  intro tk ht
  unfold tokensZ elemL at ht
  simp only [List.mem_cons, List.mem_append, List.mem_nil_iff, or_false] at ht
  rcases ht with rfl | ht | rfl
  · refine ⟨by simp; omega, by simp, by have := attrsZ_len z; simp; omega, fun p hp => ?_⟩
    have := (List.mem_filter.1 hp).1
    simp only [List.mem_cons, List.mem_nil_iff, or_false] at this
    rcases this with rfl | rfl | rfl | rfl <;> exact ⟨by simp [tyL, frL, toL, idL], by assumption⟩
  · exact (h6 tk ht).1
  · exact ⟨by simp; omega, by simp, by simp, fun p hp => by cases hp⟩
theorem parse_addr (s : List UInt8) : ∃ (a b c : List UInt8) (e : Int), parseV s = .tuple #[.agg #[.string ⟨a.toArray⟩, .string ⟨b.toArray⟩, .string ⟨c.toArray⟩], .int .i64 e] ∧
    ((e = 0 ∧ addrOk s = true) ∨ (e = 3 ∧ s = [] ∧ addrOk s = true) ∨ (e = 3 ∧ s ≠ [] ∧ addrOk s = false)) := by
  unfold parseV addrOk
  cases h : parseL s with
  | some x => obtain ⟨l, d, r⟩ := x; exact ⟨l, d, r, 0, rfl, .inl ⟨rfl, by simp⟩⟩
  | none =>
    refine ⟨[], [], [], 3, rfl, ?_⟩
    by_cases hs : s = []
    · exact .inr (.inl ⟨rfl, hs, by simp [hs]⟩)
    · exact .inr (.inr ⟨rfl, hs, by simp [hs]⟩)
theorem ix20 (a b : ByteArray) (w : World) : (Instr.index 57 (.agg #[.string a, .string b]) (.int .i64 0)).run Tryd.prog w = .ok (.string a) w := by kernel_rfl
theorem ix21 (a b : ByteArray) (w : World) : (Instr.index 57 (.agg #[.string a, .string b]) (.int .i64 1)).run Tryd.prog w = .ok (.string b) w := by kernel_rfl
def adr (z : Sz) (j : Nat) : List UInt8 := if j = 0 then z.fr else z.tt
theorem ix2 (z : Sz) (j : Nat) (h : j < 2) (w : World) : (Instr.index 57 (.agg #[.string ⟨z.fr.toArray⟩, .string ⟨z.tt.toArray⟩]) (.int .i64 j)).run Tryd.prog w = .ok (.string ⟨(adr z j).toArray⟩) w := by
  obtain rfl | rfl : j = 0 ∨ j = 1 := by omega
  · exact ix20 _ _ w
  · exact ix21 _ _ w
set_option maxHeartbeats 1000000 in
theorem right_any6 (z : Sz) (sv : Value) (w : World) (hT : TkS w sv z.pl) (hs : z.small) :
    Calls Tryd.prog 11 #[szV z sv] w fun e w' => e = .returned (.bool (rightZ z)) ∧ Below w.heap.size w w' := by
  have hsm := tokens_small hs
  have hix := ix2 z
  obtain ⟨svp, svc, rfl⟩ : ∃ a c, sv = .slice a z.pl.length c := by obtain ⟨a, c, h, -⟩ := hT; exact ⟨a, c, h⟩
  have hadr : ∀ j, (adr z j).length ≤ 140737488351232 := fun j => by unfold adr; split; exact hs.1.2.1; exact hs.1.2.2.1
  have hR0 : ∀ j, j < 2 → addrOk (adr z j) = false → rightZ z = false := by
    intro j hj h
    obtain rfl | rfl : j = 0 ∨ j = 1 := by omega
    · have h' : addrOk z.fr = false := h
      unfold rightZ; rw [h']; simp
    · have h' : addrOk z.tt = false := h
      unfold rightZ; rw [h']; simp
  have hR1 : (∀ j, j < 2 → addrOk (adr z j) = true) → rightZ z = (typedB z.k z.ty && !(z.k == 1 && z.id == []) && decide (z.id.length ≤ 512) && charsP z.id && decide (z.pl.length ≤ 64) && wholeL (tokensZ z)) := by
    intro h
    have h0 : addrOk z.fr = true := h 0 (by omega)
    have h1 : addrOk z.tt = true := h 1 (by omega)
    unfold rightZ; rw [h0, h1]; simp only [Bool.true_and]
  replace hT := Lib.hid hT
  replace hsm := Lib.hid hsm
  replace hs := Lib.hid hs
  replace hR0 := Lib.hid hR0
  replace hR1 := Lib.hid hR1
  unfold szV
  obtain ⟨k, ty, fr, tt, id, pl⟩ := z
  simp only at hix ⊢
  generalize hAd : adr ⟨k, ty, fr, tt, id, pl⟩ = ad at hix hadr
  replace hAd := Lib.hid hAd
  go_enter Tryd.func11, Tryd.ntmps11
  go_wp2_with fail
  go_loopw [12] (fun s12 wr => ∃ j : Nat, j ≤ 2 ∧ s12 = .int .i64 j ∧ Hid (∀ i, i < j → addrOk (ad i) = true) ∧ Hid (Below (w.heap.size + 1) (w.alloc (.cells #[.int .u8 k, .string ⟨ty.toArray⟩, .string ⟨fr.toArray⟩, .string ⟨tt.toArray⟩, .string ⟨id.toArray⟩, .slice svp pl.length svc] 25)) wr)) (fun s12 _ => 2 - (intOf s12).toNat)
  case atStart =>
    exact ⟨0, by omega, rfl, Lib.hid (fun i hi => absurd hi (by omega)), Lib.hid (Below.refl _ _)⟩
  case round =>
    obtain ⟨j, hj, rfl, hA, hB⟩ := hrel
    have hsz := hB.out.size
    simp only [World.size_alloc] at hsz
    by_cases hlt : j < 2
    · have hji : (j : Int) < 2 := by omega
      have hix' := hix j hlt
      have hlen := hadr j
      have hR0j := hR0.out j hlt
      rw [hAd.out] at hR0j
      obtain ⟨a, b, c, e0, hP, hcs⟩ := parse_addr (ad j)
      replace hP := Lib.hid hP
      have hAj := hA.out
      have hbw := hB.out
      replace hR0j := Lib.hid hR0j
      generalize hsj : ad j = s at hix' hlen hP hcs hR0j
      replace hsj := Lib.hid hsj
      clear hix hadr
      have hnext : addrOk s = true → Hid (∀ i, i < j + 1 → addrOk (ad i) = true) := fun h => Lib.hid fun i hi => by
        rcases Nat.lt_succ_iff_lt_or_eq.1 hi with h' | rfl
        · exact hA.out i h'
        · rw [hsj.out]; exact h
      have hcs' : (e0 = 0 ∧ s = [] ∧ addrOk s = true) ∨ (e0 = 0 ∧ (s == []) = false ∧ addrOk s = true) ∨ (e0 = 3 ∧ s = [] ∧ addrOk s = true) ∨ (e0 = 3 ∧ (s == []) = false ∧ addrOk s = false) := by
        rcases hcs with ⟨h1, h2⟩ | ⟨h1, h2, h3⟩ | ⟨h1, h2, h3⟩
        · by_cases h : s = []
          · exact .inl ⟨h1, h, h2⟩
          · exact .inr (.inl ⟨h1, by simpa using h, h2⟩)
        · exact .inr (.inr (.inl ⟨h1, h2, h3⟩))
        · exact .inr (.inr (.inr ⟨h1, by simpa using h2, h3⟩))
      clear hcs
      rcases hcs' with ⟨rfl, rfl, hok⟩ | ⟨rfl, hne, hok⟩ | ⟨rfl, rfl, hok⟩ | ⟨rfl, hne, hok⟩
      · replace hnext := hnext hok
        go_wp2_with (go_at_call 24; refine (parse_any _ _ hlen).mono ?_; rintro e w1 ⟨rfl, hb⟩; rw [hP.out]; replace hb := Lib.hid hb)
        go_roundw
        · exact ⟨j + 1, by omega, by simp, hnext, Lib.hid ((hB.out.trans (hb.out.mono hsz)).alloc (Nat.le_trans hsz hb.out.size) _)⟩
        · simp [intOf]; omega
      · replace hnext := hnext hok
        have hne' : ¬ s = [] := by simpa using hne
        go_wp2_with (go_at_call 24; refine (parse_any _ _ hlen).mono ?_; rintro e w1 ⟨rfl, hb⟩; rw [hP.out]; replace hb := Lib.hid hb)
        go_roundw
        · exact ⟨j + 1, by omega, by simp, hnext, Lib.hid ((hB.out.trans (hb.out.mono hsz)).alloc (Nat.le_trans hsz hb.out.size) _)⟩
        · simp [intOf]; omega
      · replace hnext := hnext hok
        go_wp2_with (go_at_call 24; refine (parse_any _ _ hlen).mono ?_; rintro e w1 ⟨rfl, hb⟩; rw [hP.out]; replace hb := Lib.hid hb)
        go_roundw
        · exact ⟨j + 1, by omega, by simp, hnext, Lib.hid ((hB.out.trans (hb.out.mono hsz)).alloc (Nat.le_trans hsz hb.out.size) _)⟩
        · simp [intOf]; omega
      · have hne' : ¬ s = [] := by simpa using hne
        go_wp2_with (go_at_call 24; refine (parse_any _ _ hlen).mono ?_; rintro e w1 ⟨rfl, hb⟩; rw [hP.out]; replace hb := Lib.hid hb)
        go_ret
        exact ⟨ret_bool (hR0j.out hok).symm, ((((below1 w _).trans (hB.out.mono (by simp))).trans (hb.out.mono (by omega))).alloc (by have := hb.out.size; omega) _)⟩
    · obtain rfl : j = 2 := by omega
      have hRz := hR1.out (by rw [hAd.out]; exact hA.out)
      have hBw : Below w.heap.size w wr := (below1 w _).trans (hB.out.mono (by simp))
      have kc := fun (i : Nat) => hB.out.cell (p := ⟨w.heap.size, i, none⟩) (by simp)
      have c0 := (kc 0).trans (by simp : _ = some (.int .u8 (k : Int)))
      have c1 := (kc 1).trans (by simp : _ = some (.string ⟨ty.toArray⟩))
      have c2 := (kc 2).trans (by simp : _ = some (.string ⟨fr.toArray⟩))
      have c3 := (kc 3).trans (by simp : _ = some (.string ⟨tt.toArray⟩))
      have c4 := (kc 4).trans (by simp : _ = some (.string ⟨id.toArray⟩))
      have c5 := (kc 5).trans (by simp : _ = some (.slice svp pl.length svc))
      have hid := hs.out.1.2.2.2
      simp only at hid
      have hT1 : Hid (TkS wr (.slice svp pl.length svc) pl) := Lib.hid (hT.out.below hBw)
      have hplen := hs.out.2.1
      simp only at hplen
      have hl1 : pl.length ≤ 9223372036854775807 := by omega
      have hB0 : w.heap.size < wr.heap.size := by omega
      clear kc hix hadr hR0 hR1 hB hA
      replace hBw := Lib.hid hBw
      replace hRz := Lib.hid hRz
      cases h3 : typedB k ty
      · have hr : rightZ ⟨k, ty, fr, tt, id, pl⟩ = false := by rw [hRz.out, h3]; simp
        replace hr := Lib.hid hr
        go_wp2_with (go_at_call 25; refine (typed_any _ _ _).mono ?_; rintro e w1 ⟨rfl, rfl⟩; rw [h3])
        go_ret
        exact ⟨ret_bool hr.out.symm, hBw.out⟩
      · by_cases h4 : k = 1 ∧ id = []
        · obtain ⟨h41, h42⟩ := h4
          have hr : rightZ ⟨k, ty, fr, tt, id, pl⟩ = false := by rw [hRz.out, h3, h41, h42]; simp
          replace hr := Lib.hid hr
          have e1 : (k : Int) = 1 := by omega
          have e2 : ((k : Int) == 1) = true := by simpa using e1
          clear e1 h41
          have e3 : (id == []) = true := by simpa using h42
          go_wp2_with (go_at_call 25; refine (typed_any _ _ _).mono ?_; rintro e w1 ⟨rfl, rfl⟩; rw [h3])
          all_goals go_ret
          all_goals exact ⟨ret_bool hr.out.symm, hBw.out⟩
        · have h4' : (!(k == 1 && id == [])) = true := by
            simp only [Bool.not_eq_true', Bool.and_eq_false_iff, beq_eq_false_iff_ne]
            by_cases hk : k = 1
            · exact .inr (fun h => h4 ⟨hk, h⟩)
            · exact .inl hk
          have h4c : (((k : Int) == 1) = true ∧ (id == []) = false) ∨ (¬ (k : Int) = 1 ∧ ((k : Int) == 1) = false) := by
            by_cases hk : k = 1
            · exact .inl ⟨by simp; omega, by simpa using fun h => h4 ⟨hk, h⟩⟩
            · exact .inr ⟨by omega, by simp; omega⟩
          clear h4
          by_cases h5 : id.length ≤ 512
          · have h5i : ¬ (512 : Int) < id.length := by omega
            cases h6 : charsP id
            · have hr : rightZ ⟨k, ty, fr, tt, id, pl⟩ = false := by rw [hRz.out, h6]; simp
              replace hr := Lib.hid hr
              rcases h4c with ⟨e2, e3⟩ | ⟨e1, e2⟩
              all_goals go_wp2_with (first | (go_at_call 25; refine (typed_any _ _ _).mono ?_; rintro e w1 ⟨rfl, rfl⟩; rw [h3]) | (go_at_call 26; refine (textChars_any _ _ hid).mono ?_; rintro e wc ⟨rfl, hbc⟩; rw [h6]; obtain ⟨hcc, -⟩ := bat hbc w.heap.size hB0; replace hbc := Lib.hid hbc))
              all_goals go_ret
              all_goals exact ⟨ret_bool hr.out.symm, belowT hBw.out hbc.out⟩
            · by_cases h7 : pl.length ≤ 64
              · have h7i : ¬ (64 : Int) < pl.length := by omega
                have hr : rightZ ⟨k, ty, fr, tt, id, pl⟩ = wholeL (tokensZ ⟨k, ty, fr, tt, id, pl⟩) := by rw [hRz.out, h3, h4', h6, decide_eq_true h5, decide_eq_true h7]; simp
                replace hr := Lib.hid hr
                clear h4'
                have hK : Hid (∀ W v, TkS W v (tokensZ ⟨k, ty, fr, tt, id, pl⟩) → Calls Tryd.prog 8 #[v] W fun e w' => e = .returned (.bool (wholeL (tokensZ ⟨k, ty, fr, tt, id, pl⟩))) ∧ Below W.heap.size W w') := Lib.hid fun W v h => whole_full v _ W h hsm.out
                have hto : Hid (∀ W, Below wr.heap.size wr W → Calls Tryd.prog 27 #[szV ⟨k, ty, fr, tt, id, pl⟩ (.slice svp pl.length svc)] W fun e w' => ∃ v, e = .returned v ∧ TkS w' v (tokensZ ⟨k, ty, fr, tt, id, pl⟩) ∧ Below W.heap.size W w') := Lib.hid fun W hb => tokens_any ⟨k, ty, fr, tt, id, pl⟩ _ W (hT1.out.below hb) hplen (fun tk ht => (hs.out.2.2 tk ht).2)
                rcases h4c with ⟨e2, e3⟩ | ⟨e1, e2⟩
                all_goals go_wp2_with (first
                  | (go_at_call 25; refine (typed_any _ _ _).mono ?_; rintro e w1 ⟨rfl, rfl⟩; rw [h3])
                  | (go_at_call 26; refine (textChars_any _ _ hid).mono ?_; rintro e wc ⟨rfl, hbc⟩; rw [h6]; obtain ⟨hcc, -⟩ := bat hbc w.heap.size hB0; replace hbc := Lib.hid hbc)
                  | (go_at_call 27; refine (hto.out _ hbc.out).mono ?_; rintro e w1 ⟨v, rfl, hv, hb⟩; replace hv := Lib.hid hv; replace hb := Lib.hid hb)
                  | (go_at_call 8; refine (hK.out _ _ hv.out).mono ?_; rintro e w2 ⟨rfl, hb2⟩; replace hb2 := Lib.hid hb2))
                all_goals go_ret
                all_goals exact ⟨ret_bool hr.out.symm, belowT (belowT (belowT hBw.out hbc.out) hb.out) hb2.out⟩
              · have h7i : (64 : Int) < pl.length := by omega
                have hr : rightZ ⟨k, ty, fr, tt, id, pl⟩ = false := by rw [hRz.out, decide_eq_false h7]; simp
                replace hr := Lib.hid hr
                rcases h4c with ⟨e2, e3⟩ | ⟨e1, e2⟩
                all_goals go_wp2_with (first | (go_at_call 25; refine (typed_any _ _ _).mono ?_; rintro e w1 ⟨rfl, rfl⟩; rw [h3]) | (go_at_call 26; refine (textChars_any _ _ hid).mono ?_; rintro e wc ⟨rfl, hbc⟩; rw [h6]; obtain ⟨hcc, -⟩ := bat hbc w.heap.size hB0; replace hbc := Lib.hid hbc))
                all_goals go_ret
                all_goals exact ⟨ret_bool hr.out.symm, belowT hBw.out hbc.out⟩
          · have h5i : (512 : Int) < id.length := by omega
            have hr : rightZ ⟨k, ty, fr, tt, id, pl⟩ = false := by rw [hRz.out, decide_eq_false h5]; simp
            replace hr := Lib.hid hr
            rcases h4c with ⟨e2, e3⟩ | ⟨e1, e2⟩
            all_goals go_wp2_with (go_at_call 25; refine (typed_any _ _ _).mono ?_; rintro e w1 ⟨rfl, rfl⟩; rw [h3])
            all_goals go_ret
            all_goals exact ⟨ret_bool hr.out.symm, hBw.out⟩
end Go.Proofs.YtcfkegfddiglcaaDoor
