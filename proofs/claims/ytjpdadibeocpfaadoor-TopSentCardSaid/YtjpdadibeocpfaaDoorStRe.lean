/-
  Whether a stanza is right, by the program. Condition: no text beyond the reach, at most 1000 tokens.
-/
import Derived.Test.YtjpdadibeocpfaaDoorStWa
import Derived.Test.YtjpdadibeocpfaaDoorJidA
import Derived.Test.YtjpdadibeocpfaaDoorTxA
import Derived.Test.YtjpdadibeocpfaaDoorWrEl
namespace Go.Proofs.YtjpdadibeocpfaaDoor
set_option linter.unusedVariables false
set_option linter.unusedSimpArgs false
open Go.RowKit Go.MapKept
def Sz.small (z : Sz) : Prop := (z.ty.length ≤ 140737488351232 ∧ z.fr.length ≤ 140737488351232 ∧ z.tt.length ≤ 140737488351232 ∧ z.id.length ≤ 140737488351232) ∧ z.pl.length ≤ 1000 ∧ ∀ tk ∈ z.pl, tk.small ∧ tk.as.length * 32 ≤ 140737488351232
theorem tokens_small {z : Sz} (h : z.small) : ∀ tk ∈ tokensZ z, tk.small := by
  obtain ⟨⟨h1, h2, h3, h4⟩, h5, h6⟩ := h
  have hn : (nameK z.k).length ≤ 8 := by unfold nameK; split; · simp
                                         · split; · simp [iqL]
                                           · split <;> simp [msgL, preL]
  intro tk ht
  unfold tokensZ elemL at ht
  simp only [List.mem_cons, List.mem_append, List.mem_nil_iff, or_false] at ht
  rcases ht with rfl | ht | rfl
  · refine ⟨by simp; omega, by simp, by have := attrsZ_len z; simp; omega, fun p hp => ?_⟩
    have := (List.mem_filter.1 hp).1
    simp only [List.mem_cons, List.mem_nil_iff, or_false] at this
    rcases this with rfl | rfl | rfl | rfl <;> exact ⟨by simp [tyL, frL, toL, idL], by assumption⟩
  · exact (h6 tk ht).1
  · exact ⟨by simp; omega, by simp, by simp, fun p hp => by cases hp⟩
theorem parse_addr (s : List UInt8) : ∃ (a b c : List UInt8) (e : Int), parseV s = .tuple #[.agg #[.string ⟨a.toArray⟩, .string ⟨b.toArray⟩, .string ⟨c.toArray⟩], .int .i64 e] ∧
    ((e = 0 ∧ addrOk s = true) ∨ (e = 3 ∧ s = [] ∧ addrOk s = true) ∨ (e = 3 ∧ s ≠ [] ∧ addrOk s = false)) := by
  unfold parseV addrOk
  cases h : parseL s with
  | some x => obtain ⟨l, d, r⟩ := x; exact ⟨l, d, r, 0, rfl, .inl ⟨rfl, by simp⟩⟩
  | none =>
    refine ⟨[], [], [], 3, rfl, ?_⟩
    by_cases hs : s = []
    · exact .inr (.inl ⟨rfl, hs, by simp [hs]⟩)
    · exact .inr (.inr ⟨rfl, hs, by simp [hs]⟩)
theorem ix20 (a b : ByteArray) (w : World) : (Instr.index 75 (.agg #[.string a, .string b]) (.int .i64 0)).run Tryd.prog w = .ok (.string a) w := by kernel_rfl
theorem ix21 (a b : ByteArray) (w : World) : (Instr.index 75 (.agg #[.string a, .string b]) (.int .i64 1)).run Tryd.prog w = .ok (.string b) w := by kernel_rfl
def adr (z : Sz) (j : Nat) : List UInt8 := if j = 0 then z.fr else z.tt
theorem ix2 (z : Sz) (j : Nat) (h : j < 2) (w : World) : (Instr.index 75 (.agg #[.string ⟨z.fr.toArray⟩, .string ⟨z.tt.toArray⟩]) (.int .i64 j)).run Tryd.prog w = .ok (.string ⟨(adr z j).toArray⟩) w := by
  obtain rfl | rfl : j = 0 ∨ j = 1 := by omega
  · exact ix20 _ _ w
  · exact ix21 _ _ w
set_option maxHeartbeats 1000000 in
theorem right_any6 (z : Sz) (sv : Value) (w : World) (hT : TkS w sv z.pl) (hs : z.small) :
    Calls Tryd.prog 14 #[szV z sv] w fun e w' => e = .returned (.bool (rightZ z)) ∧ Below w.heap.size w w' := by
  have hsm := tokens_small hs
  have hix := ix2 z
  obtain ⟨svp, svc, rfl⟩ : ∃ a c, sv = .slice a z.pl.length c := by obtain ⟨a, c, h, -⟩ := hT; exact ⟨a, c, h⟩
  have hadr : ∀ j, (adr z j).length ≤ 140737488351232 := fun j => by unfold adr; split; exact hs.1.2.1; exact hs.1.2.2.1
  have hR0 : ∀ j, j < 2 → addrOk (adr z j) = false → rightZ z = false := by
    intro j hj h
    obtain rfl | rfl : j = 0 ∨ j = 1 := by omega
    · have h' : addrOk z.fr = false := h
      unfold rightZ; rw [h']; simp
    · have h' : addrOk z.tt = false := h
      unfold rightZ; rw [h']; simp
  have hR1 : (∀ j, j < 2 → addrOk (adr z j) = true) → rightZ z = (typedB z.k z.ty && !(z.k == 1 && z.id == []) && decide (z.id.length ≤ 512) && charsP z.id && decide (z.pl.length ≤ 64) && wholeL (tokensZ z)) := by
    intro h
    have h0 : addrOk z.fr = true := h 0 (by omega)
    have h1 : addrOk z.tt = true := h 1 (by omega)
    unfold rightZ; rw [h0, h1]; simp only [Bool.true_and]
  replace hT := Lib.hid hT
  replace hsm := Lib.hid hsm
  replace hs := Lib.hid hs
  replace hR0 := Lib.hid hR0
  replace hR1 := Lib.hid hR1
  unfold szV
  obtain ⟨k, ty, fr, tt, id, pl⟩ := z
  simp only at hix ⊢
  generalize hAd : adr ⟨k, ty, fr, tt, id, pl⟩ = ad at hix hadr
  replace hAd := Lib.hid hAd
  go_enter Tryd.func14, Tryd.ntmps14
  go_wp2_with fail
  go_loopw [12] (fun s12 wr => ∃ j : Nat, j ≤ 2 ∧ s12 = .int .i64 j ∧ Hid (∀ i, i < j → addrOk (ad i) = true) ∧ Hid (Below (w.heap.size + 1) (w.alloc (.cells #[.int .u8 k, .string ⟨ty.toArray⟩, .string ⟨fr.toArray⟩, .string ⟨tt.toArray⟩, .string ⟨id.toArray⟩, .slice svp pl.length svc] 45)) wr)) (fun s12 _ => 2 - (intOf s12).toNat)
  case atStart =>
    exact ⟨0, by omega, rfl, Lib.hid (fun i hi => absurd hi (by omega)), Lib.hid (Below.refl _ _)⟩
  case round =>
    obtain ⟨j, hj, rfl, hA, hB⟩ := hrel
    have hsz := hB.out.size
    simp only [World.size_alloc] at hsz
    by_cases hlt : j < 2
    · have hji : (j : Int) < 2 := by omega
      have hix' := hix j hlt
      have hlen := hadr j
      have hR0j := hR0.out j hlt
      rw [hAd.out] at hR0j
      obtain ⟨a, b, c, e0, hP, hcs⟩ := parse_addr (ad j)
      replace hP := Lib.hid hP
      have hAj := hA.out
      have hbw := hB.out
      replace hR0j := Lib.hid hR0j
      generalize hsj : ad j = s at hix' hlen hP hcs hR0j
      replace hsj := Lib.hid hsj
      clear hix hadr
      have hnext : addrOk s = true → Hid (∀ i, i < j + 1 → addrOk (ad i) = true) := fun h => Lib.hid fun i hi => by
        rcases Nat.lt_succ_iff_lt_or_eq.1 hi with h' | rfl
        · exact hA.out i h'
        · rw [hsj.out]; exact h
      have hcs' : (e0 = 0 ∧ s = [] ∧ addrOk s = true) ∨ (e0 = 0 ∧ (s == []) = false ∧ addrOk s = true) ∨ (e0 = 3 ∧ s = [] ∧ addrOk s = true) ∨ (e0 = 3 ∧ (s == []) = false ∧ addrOk s = false) := by
        rcases hcs with ⟨h1, h2⟩ | ⟨h1, h2, h3⟩ | ⟨h1, h2, h3⟩
        · by_cases h : s = []
          · exact .inl ⟨h1, h, h2⟩
          · exact .inr (.inl ⟨h1, by simpa using h, h2⟩)
        · exact .inr (.inr (.inl ⟨h1, h2, h3⟩))
        · exact .inr (.inr (.inr ⟨h1, by simpa using h2, h3⟩))
      clear hcs
      rcases hcs' with ⟨rfl, rfl, hok⟩ | ⟨rfl, hne, hok⟩ | ⟨rfl, rfl, hok⟩ | ⟨rfl, hne, hok⟩
      · replace hnext := hnext hok
        go_wp2_with (go_at_call 29; refine (parse_any _ _ hlen).mono ?_; rintro e w1 ⟨rfl, hb⟩; rw [hP.out]; replace hb := Lib.hid hb)
        go_roundw
        · exact ⟨j + 1, by omega, by simp, hnext, Lib.hid ((hB.out.trans (hb.out.mono hsz)).alloc (Nat.le_trans hsz hb.out.size) _)⟩
        · simp [intOf]; omega
      · replace hnext := hnext hok
        have hne' : ¬ s = [] := by simpa using hne
        go_wp2_with (go_at_call 29; refine (parse_any _ _ hlen).mono ?_; rintro e w1 ⟨rfl, hb⟩; rw [hP.out]; replace hb := Lib.hid hb)
        go_roundw
        · exact ⟨j + 1, by omega, by simp, hnext, Lib.hid ((hB.out.trans (hb.out.mono hsz)).alloc (Nat.le_trans hsz hb.out.size) _)⟩
        · simp [intOf]; omega
      · replace hnext := hnext hok
        go_wp2_with (go_at_call 29; refine (parse_any _ _ hlen).mono ?_; rintro e w1 ⟨rfl, hb⟩; rw [hP.out]; replace hb := Lib.hid hb)
        go_roundw
        · exact ⟨j + 1, by omega, by simp, hnext, Lib.hid ((hB.out.trans (hb.out.mono hsz)).alloc (Nat.le_trans hsz hb.out.size) _)⟩
        · simp [intOf]; omega
      · have hne' : ¬ s = [] := by simpa using hne
        go_wp2_with (go_at_call 29; refine (parse_any _ _ hlen).mono ?_; rintro e w1 ⟨rfl, hb⟩; rw [hP.out]; replace hb := Lib.hid hb)
        go_ret
        exact ⟨ret_bool (hR0j.out hok).symm, ((((below1 w _).trans (hB.out.mono (by simp))).trans (hb.out.mono (by omega))).alloc (by have := hb.out.size; omega) _)⟩
    · obtain rfl : j = 2 := by omega
      have hRz := hR1.out (by rw [hAd.out]; exact hA.out)
      have hBw : Below w.heap.size w wr := (below1 w _).trans (hB.out.mono (by simp))
      have kc := fun (i : Nat) => hB.out.cell (p := ⟨w.heap.size, i, none⟩) (by simp)
      have c0 := (kc 0).trans (by simp : _ = some (.int .u8 (k : Int)))
      have c1 := (kc 1).trans (by simp : _ = some (.string ⟨ty.toArray⟩))
      have c2 := (kc 2).trans (by simp : _ = some (.string ⟨fr.toArray⟩))
      have c3 := (kc 3).trans (by simp : _ = some (.string ⟨tt.toArray⟩))
      have c4 := (kc 4).trans (by simp : _ = some (.string ⟨id.toArray⟩))
      have c5 := (kc 5).trans (by simp : _ = some (.slice svp pl.length svc))
      have hid := hs.out.1.2.2.2
      simp only at hid
      have hT1 : Hid (TkS wr (.slice svp pl.length svc) pl) := Lib.hid (hT.out.below hBw)
      have hplen := hs.out.2.1
      simp only at hplen
      have hl1 : pl.length ≤ 9223372036854775807 := by omega
      have hB0 : w.heap.size < wr.heap.size := by omega
      clear kc hix hadr hR0 hR1 hB hA
      replace hBw := Lib.hid hBw
      replace hRz := Lib.hid hRz
      cases h3 : typedB k ty
      · have hr : rightZ ⟨k, ty, fr, tt, id, pl⟩ = false := by rw [hRz.out, h3]; simp
        replace hr := Lib.hid hr
        go_wp2_with (go_at_call 30; refine (typed_any _ _ _).mono ?_; rintro e w1 ⟨rfl, rfl⟩; rw [h3])
        go_ret
        exact ⟨ret_bool hr.out.symm, hBw.out⟩
      · by_cases h4 : k = 1 ∧ id = []
        · obtain ⟨h41, h42⟩ := h4
          have hr : rightZ ⟨k, ty, fr, tt, id, pl⟩ = false := by rw [hRz.out, h3, h41, h42]; simp
          replace hr := Lib.hid hr
          have e1 : (k : Int) = 1 := by omega
          have e2 : ((k : Int) == 1) = true := by simpa using e1
          clear e1 h41
          have e3 : (id == []) = true := by simpa using h42
          go_wp2_with (go_at_call 30; refine (typed_any _ _ _).mono ?_; rintro e w1 ⟨rfl, rfl⟩; rw [h3])
          all_goals go_ret
          all_goals exact ⟨ret_bool hr.out.symm, hBw.out⟩
        · have h4' : (!(k == 1 && id == [])) = true := by
            simp only [Bool.not_eq_true', Bool.and_eq_false_iff, beq_eq_false_iff_ne]
            by_cases hk : k = 1
            · exact .inr (fun h => h4 ⟨hk, h⟩)
            · exact .inl hk
          have h4c : (((k : Int) == 1) = true ∧ (id == []) = false) ∨ (¬ (k : Int) = 1 ∧ ((k : Int) == 1) = false) := by
            by_cases hk : k = 1
            · exact .inl ⟨by simp; omega, by simpa using fun h => h4 ⟨hk, h⟩⟩
            · exact .inr ⟨by omega, by simp; omega⟩
          clear h4
          by_cases h5 : id.length ≤ 512
          · have h5i : ¬ (512 : Int) < id.length := by omega
            cases h6 : charsP id
            · have hr : rightZ ⟨k, ty, fr, tt, id, pl⟩ = false := by rw [hRz.out, h6]; simp
              replace hr := Lib.hid hr
              rcases h4c with ⟨e2, e3⟩ | ⟨e1, e2⟩
              all_goals go_wp2_with (first | (go_at_call 30; refine (typed_any _ _ _).mono ?_; rintro e w1 ⟨rfl, rfl⟩; rw [h3]) | (go_at_call 31; refine (textChars_any _ _ hid).mono ?_; rintro e wc ⟨rfl, hbc⟩; rw [h6]; obtain ⟨hcc, -⟩ := bat hbc w.heap.size hB0; replace hbc := Lib.hid hbc))
              all_goals go_ret
              all_goals exact ⟨ret_bool hr.out.symm, belowT hBw.out hbc.out⟩
            · by_cases h7 : pl.length ≤ 64
              · have h7i : ¬ (64 : Int) < pl.length := by omega
                have hr : rightZ ⟨k, ty, fr, tt, id, pl⟩ = wholeL (tokensZ ⟨k, ty, fr, tt, id, pl⟩) := by rw [hRz.out, h3, h4', h6, decide_eq_true h5, decide_eq_true h7]; simp
                replace hr := Lib.hid hr
                clear h4'
                have hK : Hid (∀ W v, TkS W v (tokensZ ⟨k, ty, fr, tt, id, pl⟩) → Calls Tryd.prog 32 #[v] W fun e w' => e = .returned (.bool (wholeL (tokensZ ⟨k, ty, fr, tt, id, pl⟩))) ∧ Below W.heap.size W w') := Lib.hid fun W v h => whole_full v _ W h hsm.out
                have hto : Hid (∀ W, Below wr.heap.size wr W → Calls Tryd.prog 28 #[szV ⟨k, ty, fr, tt, id, pl⟩ (.slice svp pl.length svc)] W fun e w' => ∃ v, e = .returned v ∧ TkS w' v (tokensZ ⟨k, ty, fr, tt, id, pl⟩) ∧ Below W.heap.size W w') := Lib.hid fun W hb => tokens_any ⟨k, ty, fr, tt, id, pl⟩ _ W (hT1.out.below hb) hplen (fun tk ht => (hs.out.2.2 tk ht).2)
                rcases h4c with ⟨e2, e3⟩ | ⟨e1, e2⟩
                all_goals go_wp2_with (first
                  | (go_at_call 30; refine (typed_any _ _ _).mono ?_; rintro e w1 ⟨rfl, rfl⟩; rw [h3])
                  | (go_at_call 31; refine (textChars_any _ _ hid).mono ?_; rintro e wc ⟨rfl, hbc⟩; rw [h6]; obtain ⟨hcc, -⟩ := bat hbc w.heap.size hB0; replace hbc := Lib.hid hbc)
                  | (go_at_call 28; refine (hto.out _ hbc.out).mono ?_; rintro e w1 ⟨v, rfl, hv, hb⟩; replace hv := Lib.hid hv; replace hb := Lib.hid hb)
                  | (go_at_call 32; refine (hK.out _ _ hv.out).mono ?_; rintro e w2 ⟨rfl, hb2⟩; replace hb2 := Lib.hid hb2))
                all_goals go_ret
                all_goals exact ⟨ret_bool hr.out.symm, belowT (belowT (belowT hBw.out hbc.out) hb.out) hb2.out⟩
              · have h7i : (64 : Int) < pl.length := by omega
                have hr : rightZ ⟨k, ty, fr, tt, id, pl⟩ = false := by rw [hRz.out, decide_eq_false h7]; simp
                replace hr := Lib.hid hr
                rcases h4c with ⟨e2, e3⟩ | ⟨e1, e2⟩
                all_goals go_wp2_with (first | (go_at_call 30; refine (typed_any _ _ _).mono ?_; rintro e w1 ⟨rfl, rfl⟩; rw [h3]) | (go_at_call 31; refine (textChars_any _ _ hid).mono ?_; rintro e wc ⟨rfl, hbc⟩; rw [h6]; obtain ⟨hcc, -⟩ := bat hbc w.heap.size hB0; replace hbc := Lib.hid hbc))
                all_goals go_ret
                all_goals exact ⟨ret_bool hr.out.symm, belowT hBw.out hbc.out⟩
          · have h5i : (512 : Int) < id.length := by omega
            have hr : rightZ ⟨k, ty, fr, tt, id, pl⟩ = false := by rw [hRz.out, decide_eq_false h5]; simp
            replace hr := Lib.hid hr
            rcases h4c with ⟨e2, e3⟩ | ⟨e1, e2⟩
            all_goals go_wp2_with (go_at_call 30; refine (typed_any _ _ _).mono ?_; rintro e w1 ⟨rfl, rfl⟩; rw [h3])
            all_goals go_ret
            all_goals exact ⟨ret_bool hr.out.symm, hBw.out⟩
end Go.Proofs.YtjpdadibeocpfaaDoor
/-
  A stanza's tokens, or the error, by the program. Condition: no text beyond the reach, at most 1000 tokens.
-/
namespace Go.Proofs.YtjpdadibeocpfaaDoor
set_option linter.unusedVariables false
set_option linter.unusedSimpArgs false
open Go.RowKit Go.MapKept
def errE (b : Bool) : Int := if b then 0 else 3
def encL (z : Sz) : List Tk := if rightZ z then tokensZ z else []
set_option maxHeartbeats 1000000 in
theorem encode_any (z : Sz) (sv : Value) (w : World) (hT : TkS w sv z.pl) (hs : z.small) :
    Calls Tryd.prog 13 #[szV z sv] w fun e w' => ∃ v, e = .returned (.tuple #[v, .int .i64 (errE (rightZ z))]) ∧ TkS w' v (encL z) ∧ Below w.heap.size w w' := by
  obtain ⟨svp, svc, rfl⟩ : ∃ a c, sv = .slice a z.pl.length c := by obtain ⟨a, c, h, -⟩ := hT; exact ⟨a, c, h⟩
  have hR : Hid (∀ W, Below w.heap.size w W → Calls Tryd.prog 14 #[szV z (.slice svp z.pl.length svc)] W fun e w' => e = .returned (.bool (rightZ z)) ∧ Below W.heap.size W w') := Lib.hid fun W hb => right_any6 z _ W (hT.below hb) hs
  have hto : Hid (∀ W, Below w.heap.size w W → Calls Tryd.prog 28 #[szV z (.slice svp z.pl.length svc)] W fun e w' => ∃ v, e = .returned v ∧ TkS w' v (tokensZ z) ∧ Below W.heap.size W w') := Lib.hid fun W hb => tokens_any z _ W (hT.below hb) hs.2.1 (fun tk ht => (hs.2.2 tk ht).2)
  replace hT := Lib.hid hT
  replace hs := Lib.hid hs
  cases hr : rightZ z
  · have e1 : encL z = [] := by unfold encL; rw [hr]; rfl
    rw [hr] at hR
    replace hr := Lib.hid hr
    replace e1 := Lib.hid e1
    unfold szV at hR hto ⊢
    obtain ⟨k, ty, fr, tt, id, pl⟩ := z
    simp only at hR hto ⊢
    go_enter Tryd.func13, Tryd.ntmps13
    go_wp2_with (go_at_call 14; refine (hR.out _ (below1 _ _)).mono ?_; rintro e w1 ⟨rfl, hb⟩; replace hb := Lib.hid hb)
    go_ret2
    exact ⟨_, rfl, by rw [e1.out]; exact tk_nil _ 0 (Nat.zero_le _), below1t hb.out⟩
  · have e1 : encL z = tokensZ z := by unfold encL; rw [hr]; rfl
    rw [hr] at hR
    replace hr := Lib.hid hr
    replace e1 := Lib.hid e1
    unfold szV at hR hto ⊢
    obtain ⟨k, ty, fr, tt, id, pl⟩ := z
    simp only at hR hto ⊢
    go_enter Tryd.func13, Tryd.ntmps13
    go_wp2_with (first
      | (go_at_call 14; refine (hR.out _ (below1 _ _)).mono ?_; rintro e w1 ⟨rfl, hb⟩; obtain ⟨hc, -⟩ := bat hb w.heap.size (by simp); replace hb := Lib.hid hb)
      | (go_at_call 28; refine (hto.out _ (below1t hb.out)).mono ?_; rintro e w2 ⟨v, rfl, hv, hb2⟩; replace hv := Lib.hid hv; replace hb2 := Lib.hid hb2))
    go_ret2
    exact ⟨_, rfl, by rw [e1.out]; exact hv.out, belowT (below1t hb.out) hb2.out⟩
end Go.Proofs.YtjpdadibeocpfaaDoor
/-
  Tokens of one's own (inside), by the program. Condition: at most 1000 tokens.
-/
namespace Go.Proofs.YtjpdadibeocpfaaDoor
set_option linter.unusedVariables false
set_option linter.unusedSimpArgs false
open Go.RowKit Go.MapKept
theorem nilTk (n c : Nat) (w : World) : (binOp .eql 25 (.slice none n c) (.slice none 0 0)).run Tryd.prog w = .ok (.bool true) w := by kernel_rfl
theorem someTk (ad : Addr) (n c : Nat) (w : World) : (binOp .eql 25 (.slice (some ad) n c) (.slice none 0 0)).run Tryd.prog w = .ok (.bool false) w := by kernel_rfl
theorem cloneT_any (v : Value) (l : List Tk) (w : World) (h : TkS w v l) (hl : l.length ≤ 1000) :
    Calls Tryd.prog 47 #[v] w fun e w' => ∃ v' ps, e = .returned v' ∧ ps.map (·.1) = l ∧ (∀ p ∈ ps, AtS w p.2 p.1.as) ∧ w'.ownsRow w.heap.size 35 4 v' l.length (tkCells ps) ∧ Below w.heap.size w w' := by
  obtain ⟨i0, hi, hz0, hz1, hz2⟩ := info_parts infoT
  obtain ⟨ps, hps, hpa, hsrc⟩ := h.pairs
  have hpl : ps.length = l.length := by rw [← hps, List.length_map]
  rcases hsrc with ⟨hv, hp0⟩ | ⟨ad, c, rfl, hcell⟩
  · obtain ⟨c, rfl⟩ : ∃ c, v = .slice none 0 c := by
      rcases hv with rfl | ⟨c, rfl⟩
      · exact ⟨0, rfl⟩
      · exact ⟨c, rfl⟩
    have hn := nilTk
    have h0 : l.length = 0 := by rw [← hpl, hp0]; rfl
    replace h0 := Lib.hid h0
    go_enter Tryd.func47, Tryd.ntmps47
    go_wp2
    go_ret
    refine ⟨_, ps, rfl, hps, hpa, ?_, Below.refl _ _⟩
    rw [h0.out, hp0]
    exact ⟨rfl, .inl ⟨rfl, rfl⟩⟩
  · have hn := someTk
    have hO : (w.alloc (.cells #[] 35)).ownsRow w.heap.size 35 4 (.slice (some ⟨w.heap.size, 0, none⟩) 0 0) 0 [] := ⟨rfl, .inr ⟨w.heap.size, 0, #[], rfl, Nat.le_refl _, (heap_alloc _ _).1, Nat.le_refl _, by simp, rfl, rfl⟩⟩
    have one := tkCells_one ps (fun p hp => by obtain ⟨a, c, h, -⟩ := hpa p hp; exact ⟨a, _, c, h⟩)
    have hnews : ∀ j u, (tkCells ps)[j]? = some u → (w.alloc (.cells #[] 35)).cell? (ad.add j) = some u := by
      intro j u hj
      have h1 := hcell j u hj
      rw [World.cell?_alloc_lt _ _ _ (cell_lt h1)]
      exact h1
    replace hcell := Lib.hid hcell
    replace hpa := Lib.hid hpa
    have hp1000 : ps.length ≤ 1000 := by omega
    replace hpl := Lib.hid hpl
    go_enter Tryd.func47, Tryd.ntmps47
    go_wp2_with (at_builtin; refine wpList_append_own _ rfl _ _ 25 rfl w.heap.size 35 i0 _ 4 64 Tryd.underlying25 hi hz0 hz1 hz2 rfl (by decide) _ _ _ rfl hO ad ps.length c (tkCells ps) rfl (tkCells_len ps) hnews one (by unfold maxLen; omega) (by omega) (by simp) ?_; intro v' w2 hO2 hg2 _)
    go_ret
    rw [Nat.zero_add, List.nil_append] at hO2
    refine ⟨_, ps, rfl, hps, hpa.out, ?_, (below1 w _).grown hg2 (by simp) (fun k hk => by cases hk; exact Nat.le_refl _)⟩
    rw [← hpl.out]
    exact hO2
set_option maxHeartbeats 1000000 in
theorem inside_any (v : Value) (l : List Tk) (w : World) (h : TkS w v l) (hl : l.length ≤ 1000) (hat : ∀ tk ∈ l, tk.as.length * 32 ≤ 140737488351232) :
    Calls Tryd.prog 34 #[v] w fun e w' => ∃ v', e = .returned v' ∧ TkF w.heap.size w' v' l ∧ Below w.heap.size w w' := by
  have hcl := Lib.hid (cloneT_any v l w h hl)
  obtain ⟨vp, vc, rfl⟩ : ∃ a c, v = .slice a l.length c := by obtain ⟨a, c, h, -⟩ := h; exact ⟨a, c, h⟩
  obtain ⟨N, hN⟩ : ∃ N, l.length = N := ⟨_, rfl⟩
  replace h := Lib.hid h
  replace hat := Lib.hid hat
  rw [hN] at hcl hl ⊢
  replace hN := Lib.hid hN
  by_cases h0 : N = 0
  · subst h0
    go_enter Tryd.func34, Tryd.ntmps34
    go_wp2_with (go_at_call 47; refine hcl.out.mono ?_; rintro e w1 ⟨v', ps, rfl, hps, hpa, hO, hb⟩; obtain ⟨va, vc', rfl⟩ := owns_val hO; replace hps := Lib.hid hps; replace hpa := Lib.hid hpa; replace hO := Lib.hid hO; replace hb := Lib.hid hb)
    go_loopw [9] (fun s9 wr => s9 = .int .i64 0 ∧ wr = w1) (fun _ _ => 0)
    case atStart => exact ⟨rfl, rfl⟩
    case round =>
      obtain ⟨rfl, rfl⟩ := hrel
      go_wp2
      go_ret
      refine ⟨_, rfl, ?_, hb.out⟩
      have hp0 : ps = [] := List.length_eq_zero_iff.1 (by rw [← List.length_map (f := (·.1)), hps.out, hN.out])
      intro W hs1 hs2
      have := owns_tks (owns_keep hO.out hs2) (by rw [← List.length_map (f := (·.1)), hps.out, hN.out]) (fun p hp => by rw [hp0] at hp; cases hp)
      rw [hps.out] at this
      exact this
  · have hNp : 0 < N := by omega
    clear h0
    go_enter Tryd.func34, Tryd.ntmps34
    go_wp2_with (go_at_call 47; refine hcl.out.mono ?_; rintro e w1 ⟨v', ps0, rfl, hps, hpa, hO, hb⟩; obtain ⟨g, c4, rfl, hg, hgs⟩ := owns_head hO hNp; replace hps := Lib.hid hps; replace hpa := Lib.hid hpa; replace hO := Lib.hid hO; replace hb := Lib.hid hb)
    go_loopw [9] (fun i wr => ∃ (k : Nat) (ps : List (Tk × Value)), k ≤ N ∧ i = .int .i64 k ∧ ps.map (·.1) = l ∧ Hid (wr.ownsRow w.heap.size 35 4 (.slice (some ⟨g, 0, none⟩) N c4) N (tkCells ps)) ∧ Hid (∀ i (h : i < ps.length), AtX (fun b => b ≠ g ∧ (i < k → w.heap.size ≤ b)) wr (ps[i]'h).2 (ps[i]'h).1.as) ∧ Hid (Below w.heap.size w wr)) (fun i _ => N - (intOf i).toNat)
    case atStart =>
      refine ⟨0, ps0, Nat.zero_le _, rfl, hps.out, hO, ?_, hb⟩
      intro i hi'
      refine AtX.mono (ok := fun b => b < w.heap.size) ?_ (fun b hb => ⟨by omega, fun h => absurd h (by omega)⟩)
      exact AtX.keep (hpa.out _ (List.getElem_mem hi')).x hb.out.size (fun b h1 _ => hb.out.block b h1)
    case round =>
      obtain ⟨k, ps, hk, rfl, hpm, hO, hX, hB⟩ := hrel
      have hpl : ps.length = N := by rw [← List.length_map (f := (·.1)), hpm, hN.out]
      by_cases hlt : k < N
      · have hlt' : k < ps.length := by omega
        have hgl : g < wr.heap.size := ((hO.out.lt g rfl).2)
        have hxk := hX.out k hlt'
        have hbd : ps[k].1.as.length * 32 ≤ 140737488351232 := by
          refine hat.out ps[k].1 ?_
          rw [← hpm]
          exact List.mem_map.2 ⟨ps[k], List.getElem_mem hlt', rfl⟩
        have c2k : wr.cell? ⟨g, k * 4 + 2, none⟩ = some ps[k].2 := by
          have := World.ownsRow.cells hO.out (g := g) rfl (k * 4 + 2) ps[k].2 (by rw [tkCells_get ps k hlt' 2 (by omega)]; rfl)
          rwa [Addr.add_lit, Nat.zero_add] at this
        have f2k := owns_frozen hO.out (k * 4 + 2)
        have hset := tkCells_set ps k hlt'
        obtain ⟨pv, hpv⟩ : ∃ z, ps[k].2 = z := ⟨_, rfl⟩
        rw [hpv] at hxk c2k
        obtain ⟨pp, pc, hsh⟩ : ∃ a c, pv = .slice a ps[k].1.as.length c := by obtain ⟨a, c, h, -⟩ := hxk; exact ⟨a, c, h⟩
        subst hsh
        have hcl := clone_any _ _ _ hxk.at hbd
        go_wp2_with (go_at_call 23; refine hcl.mono ?_; rintro e w5 ⟨sv', rfl, hX5, hb5⟩; have c5 := ((bat hb5 g hgl).1 (k * 4 + 2)).trans c2k; have f5 := ((bat hb5 g hgl).2 (k * 4 + 2)).trans f2k; obtain ⟨sp, sc, hsv⟩ : ∃ a c, sv' = .slice a ps[k].1.as.length c := by obtain ⟨a, c, h, -⟩ := hX5; exact ⟨a, c, h⟩
                     subst hsv)
        go_roundw
        case rel =>
          have hO6 := owns_set (j := k * 4 + 2) (.slice sp ps[k].1.as.length sc) (owns_keep2 hO.out (fun b hb => hb5.block b hb)) (by omega)
          rw [← hset] at hO6
          have hother : ∀ b, b ≠ g → (w5.setCell ⟨g, k * 4 + 2, none⟩ (.slice sp ps[k].1.as.length sc)).heap[b]? = w5.heap[b]? := fun b hb => Below.heap_setCell _ _ _ _ hb
          have hsz6 : (w5.setCell ⟨g, k * 4 + 2, none⟩ (.slice sp ps[k].1.as.length sc)).heap.size = w5.heap.size := by simp [World.setCell]
          refine ⟨k + 1, ps.set k (ps[k].1, .slice sp ps[k].1.as.length sc), by omega, by go_num, ?_, hO6, ?_, (belowT hB hb5).setCell (p := ⟨g, k * 4 + 2, none⟩) hg _⟩
          · rw [← hpm, List.map_set]
            apply List.ext_getElem
            · simp
            · intro i h1 h2
              rw [List.getElem_set]
              split
              · rename_i e; subst e; simp
              · rfl
          · intro i hi'
            have hi2 : i < ps.length := by simpa using hi'
            have hsw := hB.out.size
            by_cases e : i = k
            · subst e
              rw [List.getElem_set_self]
              refine AtX.keep (AtX.mono hX5 (fun b hb => ⟨by omega, fun _ => by omega⟩)) (by rw [hsz6]; exact Nat.le_refl _) (fun b hb hbg => hother b hbg.1)
            · rw [List.getElem_set_ne (fun h => e h.symm)]
              refine AtX.keep (AtX.mono (hX.out i hi2) (fun b hb => ⟨hb.1, fun h => hb.2 (by omega)⟩)) (by rw [hsz6]; exact hb5.size) (fun b hb hbg => (hother b hbg.1).trans (hb5.block b hb))
        case measure => simp [intOf]; omega
      · have hkN : k = N := by omega
        go_wp2
        go_ret
        refine ⟨_, rfl, ?_, hB⟩
        intro W hs1 hs2
        rw [← hpm]
        refine owns_tks (owns_keep hO.out hs2) hpl.symm (fun p hp => ?_)
        obtain ⟨i, hi', rfl⟩ := List.getElem_of_mem hp
        exact (AtX.keep (hX.out i hi') hs1 (fun b hb hbg => hs2 b (hbg.2 (by omega)) hb)).at
end Go.Proofs.YtjpdadibeocpfaaDoor
/-
  What a stanza's tokens say, one attribute after the other (plain); where the fields of a stanza lie. No condition.
-/
namespace Go.Proofs.YtjpdadibeocpfaaDoor
set_option linter.unusedVariables false
set_option linter.unusedSimpArgs false
open Go.RowKit Go.MapKept
theorem decA_app (z : Sz) : ∀ (a b : Ats), decA z (a ++ b) = match decA z a with | some z' => decA z' b | none => none := by
  intro a
  induction a generalizing z with
  | nil => intro b; rfl
  | cons p a ih =>
    intro b
    rw [List.cons_append, decA, decA]
    cases setZ z p with
    | none => rfl
    | some z' => exact ih z' b
theorem decA_step {z z' : Sz} {al : Ats} {j : Nat} (h : j < al.length) (ha : decA z (al.take j) = some z') : decA z (al.take (j + 1)) = setZ z' (al[j]'h) := by
  rw [List.take_succ_eq_append_getElem h, decA_app, ha]
  show decA z' [al[j]] = _
  unfold decA
  cases setZ z' al[j] <;> rfl
theorem decA_stop {z z' : Sz} {al : Ats} {j : Nat} (h : j < al.length) (ha : decA z (al.take j) = some z') (hn : setZ z' (al[j]'h) = none) : decA z al = none := by
  have e : al = al.take (j + 1) ++ al.drop (j + 1) := (List.take_append_drop _ _).symm
  rw [e, decA_app, decA_step h ha, hn]
def Sz.smallF (z : Sz) : Prop := z.ty.length ≤ 140737488351232 ∧ z.fr.length ≤ 140737488351232 ∧ z.tt.length ≤ 140737488351232 ∧ z.id.length ≤ 140737488351232
theorem decA_small {al : Ats} (hb : ∀ p ∈ al, p.1.length ≤ 140737488351232 ∧ p.2.length ≤ 140737488351232) : ∀ {z z' : Sz}, z.smallF → decA z al = some z' → z'.smallF ∧ z'.k = z.k ∧ z'.pl = z.pl := by
  induction al with
  | nil => intro z z' hz h; injection h with h; subst h; exact ⟨hz, rfl, rfl⟩
  | cons p al ih =>
    intro z z' hz h
    unfold decA at h
    have hp := (hb p (by simp)).2
    have ih' := fun {z z'} => ih (fun q hq => hb q (by simp [hq])) (z := z) (z' := z')
    cases hs : setZ z p with
    | none => rw [hs] at h; cases h
    | some z1 =>
      rw [hs] at h
      obtain ⟨h1, h2, h3, h4⟩ := hz
      have : z1.smallF ∧ z1.k = z.k ∧ z1.pl = z.pl := by
        unfold setZ at hs
        split at hs
        · injection hs with hs; subst hs; exact ⟨⟨hp, h2, h3, h4⟩, rfl, rfl⟩
        · split at hs
          · injection hs with hs; subst hs; exact ⟨⟨h1, hp, h3, h4⟩, rfl, rfl⟩
          · split at hs
            · injection hs with hs; subst hs; exact ⟨⟨h1, h2, hp, h4⟩, rfl, rfl⟩
            · split at hs
              · injection hs with hs; subst hs; exact ⟨⟨h1, h2, h3, hp⟩, rfl, rfl⟩
              · cases hs
      obtain ⟨a, b, c⟩ := ih' this.1 h
      exact ⟨a, b.trans this.2.1, c.trans this.2.2⟩
/-- the last kind of those up to j whose name is n -/
def kdTo (n : List UInt8) : Nat → Nat
  | 0 => 0
  | j + 1 => if nameK (j + 1) = n then j + 1 else kdTo n j
theorem kdTo_3 (n : List UInt8) : kdTo n 3 = kindN n := by
  unfold kindN
  show (if preL = n then 3 else if msgL = n then 2 else if iqL = n then 1 else 0) = _
  simp only [eq_comm]
theorem kdTo_le (n : List UInt8) : ∀ j, kdTo n j ≤ j
  | 0 => Nat.le_refl _
  | j + 1 => by unfold kdTo; split; · exact Nat.le_refl _
                · have := kdTo_le n j; omega
theorem whole_two {l : List Tk} (h : wholeL l = true) : 2 ≤ l.length := by
  obtain ⟨h1, h2, h3⟩ := whole_right h
  have ho := right_ops h1
  rcases Nat.lt_or_ge l.length 2 with hl | hl
  · exfalso
    match l, h2, hl, ho with
    | [tk], _, _, ho =>
      have : opsTo [tk] 1 = stepT 0 [] tk := rfl
      rw [show [tk].length = 1 from rfl, this] at ho
      unfold stepT at ho
      split at ho
      · cases ho
      · split at ho
        · injection ho with ho; simp at ho
        · split at ho
          · rename_i h; exact absurd h.2.1 (by simp)
          · split at ho
            · rename_i h; exact absurd h.2.1 (by simp)
            · cases ho
  · exact hl
theorem TkS.mid {w : World} {b o c : Nat} {l : List Tk} (h : TkS w (.slice (some ⟨b, o, none⟩) l.length c) l) (h2 : 2 ≤ l.length) : TkS w (.slice (some ⟨b, o + 4, none⟩) (l.length - 2) (c - 1)) ((l.drop 1).take (l.length - 2)) := by
  obtain ⟨ptr, cap, he, h1, h1', h3⟩ := h
  injection he with e1 e2 e3
  subst e3
  obtain ⟨b', o', e4, hb, hc⟩ := h3 (by omega)
  rw [← e1] at e4
  injection e4 with e4
  injection e4 with e4 e5 _
  subst e4 e5
  have hlen : ((l.drop 1).take (l.length - 2)).length = l.length - 2 := by simp; omega
  refine ⟨_, _, by rw [hlen], by rw [hlen]; omega, by omega, fun _ => ⟨b, o + 4, rfl, hb, fun i hi => ?_⟩⟩
  rw [hlen] at hi
  obtain ⟨sv, d0, d1, d2, d3, d4⟩ := hc (i + 1) (by omega)
  have e : ((l.drop 1).take (l.length - 2))[i]'(by rw [hlen]; exact hi) = l[i + 1]'(by omega) := by simp [Nat.add_comm]
  rw [e]
  refine ⟨sv, ?_, ?_, ?_, ?_, d4⟩
  · rw [show o + 4 + i * 4 = o + (i + 1) * 4 by omega]; exact d0
  · rw [show o + 4 + i * 4 + 1 = o + (i + 1) * 4 + 1 by omega]; exact d1
  · rw [show o + 4 + i * 4 + 2 = o + (i + 1) * 4 + 2 by omega]; exact d2
  · rw [show o + 4 + i * 4 + 3 = o + (i + 1) * 4 + 3 by omega]; exact d3
def kvP (b : Nat) : List (Value × Value) := [(.string ⟨#[116, 121, 112, 101]⟩, .pointer (some ⟨b, 1, none⟩)), (.string ⟨#[102, 114, 111, 109]⟩, .pointer (some ⟨b, 2, none⟩)), (.string ⟨#[116, 111]⟩, .pointer (some ⟨b, 3, none⟩)), (.string ⟨#[105, 100]⟩, .pointer (some ⟨b, 4, none⟩))]
theorem kvP_keys (b : Nat) : ∀ p ∈ kvP b, IsKey .string p.1 := by
  intro p hp
  simp only [kvP, List.mem_cons, List.mem_nil_iff, or_false] at hp
  rcases hp with rfl | rfl | rfl | rfl <;> trivial
theorem sameS (x n : List UInt8) : Instr.sameNow .string (.string ⟨x.toArray⟩) (.string ⟨n.toArray⟩) = some (x == n) := by
  simp only [Instr.sameNow, Option.some.injEq]
  rw [Bool.eq_iff_iff, bytes_beq]
  simp
theorem ptr_find (b : Nat) (nm : List UInt8) : findKV .string (.string ⟨nm.toArray⟩) (kvP b) = if nm = tyL then some (.pointer (some ⟨b, 1, none⟩)) else if nm = frL then some (.pointer (some ⟨b, 2, none⟩)) else if nm = toL then some (.pointer (some ⟨b, 3, none⟩)) else if nm = idL then some (.pointer (some ⟨b, 4, none⟩)) else none := by
  have e1 : Instr.sameNow .string (.string ⟨nm.toArray⟩) (.string ⟨#[116, 121, 112, 101]⟩) = some (nm == tyL) := sameS nm tyL
  have e2 : Instr.sameNow .string (.string ⟨nm.toArray⟩) (.string ⟨#[102, 114, 111, 109]⟩) = some (nm == frL) := sameS nm frL
  have e3 : Instr.sameNow .string (.string ⟨nm.toArray⟩) (.string ⟨#[116, 111]⟩) = some (nm == toL) := sameS nm toL
  have e4 : Instr.sameNow .string (.string ⟨nm.toArray⟩) (.string ⟨#[105, 100]⟩) = some (nm == idL) := sameS nm idL
  simp only [kvP, findKV, e1, e2, e3, e4, Option.some.injEq, beq_iff_eq]
def objZ (z : Sz) (sv : Value) : Obj := .cells #[.int .u8 z.k, .string ⟨z.ty.toArray⟩, .string ⟨z.fr.toArray⟩, .string ⟨z.tt.toArray⟩, .string ⟨z.id.toArray⟩, sv] 45
end Go.Proofs.YtjpdadibeocpfaaDoor
