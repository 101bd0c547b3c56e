/-
  The text of tokens (write.Print). Condition: no text beyond the reach.
-/
import Derived.Test.YtjpdadibeocpfaaDoorWrPrintPure
import Derived.Test.YtjpdadibeocpfaaDoorWrBuilder
import Derived.Deep.RegionHeld3
namespace Go.Proofs.YtjpdadibeocpfaaDoor
set_option linter.unusedVariables false
set_option linter.unusedSimpArgs false
open Go.RowKit Go.MapKept
theorem bcat (a b : List UInt8) : ByteArray.mk a.toArray ++ ByteArray.mk b.toArray = ByteArray.mk (a ++ b).toArray := by
  apply ByteArray.ext
  simp
theorem isB_below {T e : TypeId} {B b : Nat} {bs : List Value} {W W' : World} (h : Lib.IsBuilderF T e B b bs W) (hb : Below W.heap.size W W') : Lib.IsBuilderF T e B b bs W' := by
  have go : ∀ p, Lib.BuilderAtF T e B b p bs W → Lib.BuilderAtF T e B b p bs W' := fun p ⟨h1, v, h2, h3, h4⟩ => by
    have hlt : b < W.heap.size := (Array.getElem?_eq_some_iff.1 h2).1
    exact ⟨h1, v, (hb.block b hlt).trans h2, h3.kept (row := none) ⟨hb.os, hb.tape, hb.output, hb.size, fun k hk _ => hb.block k hk⟩ (by cases v.ownBlock <;> simp), h4⟩
  exact h.elim (fun x => .inl (go _ x)) (fun x => .inr (go _ x))
theorem isB_lt {T e : TypeId} {B b : Nat} {bs : List Value} {W : World} (h : Lib.IsBuilderF T e B b bs W) : b < W.heap.size := by
  have go : ∀ p, Lib.BuilderAtF T e B b p bs W → b < W.heap.size := fun p ⟨_, v, h2, _, _⟩ => (Array.getElem?_eq_some_iff.1 h2).1
  exact h.elim (go _) (go _)
theorem keepA {w0 W w' : World} {g : Nat} {x y : Value} {t : TypeId} (hS : W.cell? ⟨g, 0, none⟩ = some x ∧ W.cell? ⟨g, 1, none⟩ = some y ∧ W.heap[g]? = some (.cells #[x, y] t) ∧ Below w0.heap.size w0 W) (hb : Below W.heap.size W w') (h0 : w0.heap.size ≤ g) :
    w'.cell? ⟨g, 0, none⟩ = some x ∧ w'.cell? ⟨g, 1, none⟩ = some y ∧ w'.heap[g]? = some (.cells #[x, y] t) ∧ Below w0.heap.size w0 w' := by
  obtain ⟨h1, h2, h3, h4⟩ := hS
  have hg : g < W.heap.size := (Array.getElem?_eq_some_iff.1 h3).1
  obtain ⟨hc, -⟩ := bat hb g hg
  exact ⟨(hc 0).trans h1, (hc 1).trans h2, (hb.block g hg).trans h3, belowT h4 hb⟩
theorem keepAO {w0 W w' : World} {g b : Nat} {x y : Value} {t e : TypeId} (hS : W.cell? ⟨g, 0, none⟩ = some x ∧ W.cell? ⟨g, 1, none⟩ = some y ∧ W.heap[g]? = some (.cells #[x, y] t) ∧ Below w0.heap.size w0 W) (hk : Lib.OthersKept e (some b) W w') (hb : Below w0.heap.size W w') (hg : b < g) (ht : t ≠ e := by decide) :
    w'.cell? ⟨g, 0, none⟩ = some x ∧ w'.cell? ⟨g, 1, none⟩ = some y ∧ w'.heap[g]? = some (.cells #[x, y] t) ∧ Below w0.heap.size w0 w' := by
  obtain ⟨h1, h2, h3, h4⟩ := hS
  have h := hk g _ h3 (by intro e; injection e with e; omega) (by intro c fz e; injection e with _ e; exact ht e)
  exact ⟨by rw [Lib.cell_of_heap h]; rfl, by rw [Lib.cell_of_heap h]; rfl, h, h4.trans hb⟩
theorem keepA0 (wr : World) (t : TypeId) {x y : Value} {w0 : World} (hB : Below w0.heap.size w0 wr) : (wr.alloc (.cells #[x, y] t)).drew.cell? ⟨wr.heap.size, 0, none⟩ = some x ∧ (wr.alloc (.cells #[x, y] t)).drew.cell? ⟨wr.heap.size, 1, none⟩ = some y ∧ (wr.alloc (.cells #[x, y] t)).drew.heap[wr.heap.size]? = some (.cells #[x, y] t) ∧ Below w0.heap.size w0 (wr.alloc (.cells #[x, y] t)).drew :=
  ⟨by simp, by simp, (by show (wr.heap.push _)[wr.heap.size]? = _; simp), (hB.alloc hB.size _).drew⟩
theorem boxKept {e : TypeId} {b : Nat} {w w' : World} {cs : Array Value} {t : TypeId} {f : Nat × Nat} (h : Lib.OthersKept e (some b) (w.alloc (.cells cs t f)) w') (hb : b < w.heap.size) (ht : t ≠ e) (o : Nat) : w'.cell? ⟨w.heap.size, o, none⟩ = cs[o]? := by
  have := h w.heap.size (.cells cs t f) (by show (w.heap.push _)[w.heap.size]? = _; simp) (by intro e; injection e with e; omega) (by intro c fz e; injection e with _ e; exact ht e)
  rw [Lib.cell_of_heap this]
theorem atP_cat (x y : List UInt8) : ByteArray.mk #[32] ++ ByteArray.mk x.toArray ++ ByteArray.mk #[61, 39] ++ ByteArray.mk (escL y).toArray ++ ByteArray.mk #[39] = ByteArray.mk (atP (x, y)).toArray := by
  show ByteArray.mk [32].toArray ++ ByteArray.mk x.toArray ++ ByteArray.mk [61, 39].toArray ++ ByteArray.mk (escL y).toArray ++ ByteArray.mk [39].toArray = _
  rw [bcat, bcat, bcat, bcat]; rfl
theorem atsL_take {al : Ats} (h : ∀ p ∈ al, p.1.length ≤ 32 ∧ p.2.length ≤ 512) : ∀ j, (atsL (al.take j)).length ≤ j * 4000
  | 0 => by simp [atsL]
  | j + 1 => by
    have ih := atsL_take h j
    rcases Nat.lt_or_ge j al.length with hj | hj
    · rw [atsL_snoc al j hj]
      rw [List.length_append]
      have h1 := h _ (List.getElem_mem hj)
      have h2 := escL_len (al[j]'hj).2
      have : (atP (al[j]'hj)).length = (al[j]'hj).1.length + (escL (al[j]'hj).2).length + 4 := by simp [atP]; omega
      omega
    · have e : al.take (j + 1) = al.take j := (List.take_of_length_le (Nat.le_succ_of_le hj)).trans (List.take_of_length_le hj).symm
      rw [e]
      exact Nat.le_trans ih (Nat.mul_le_mul_right _ (Nat.le_succ j))
/-- P4.1 -/
theorem print_bad (tv : Value) (tks : List Tk) (w : World) (hT : TkS w tv tks) (hsm : ∀ tk ∈ tks, tk.small) (hr : rightL tks = false) :
    Calls Tryd.prog 8 #[tv] w fun e w' => e = .returned (.tuple #[.string ⟨#[]⟩, .int .i64 3]) ∧ Below w.heap.size w w' := by
  obtain ⟨ptr, cap, rfl⟩ := hT.shape
  have hR := right_full _ tks _ hT hsm
  rw [hr] at hR
  go_enter Tryd.func8, Tryd.ntmps8
  go_wp2_with (go_at_call 11; refine hR.mono ?_; rintro e w1 ⟨rfl, hb1⟩)
  go_ret2
  exact ⟨rfl, hb1⟩
set_option maxHeartbeats 4000000 in
theorem print_good (tv : Value) (tks : List Tk) (w : World) (hT : TkS w tv tks) (hsm : ∀ tk ∈ tks, tk.small) (hr : rightL tks = true) :
    Calls Tryd.prog 8 #[tv] w fun e w' => e = .returned (.tuple #[.string ⟨(printR tks).toArray⟩, .int .i64 0]) ∧ Below w.heap.size w w' := by
  have hop : opsTo tks tks.length = some [] := by simp [rightL] at hr; exact hr.2
  have h64 : tks.length ≤ 64 := by simp [rightL] at hr; exact hr.1
  have hall := right_each (by rw [hop]; rfl : (opsTo tks tks.length).isSome = true)
  have hR := right_full _ tks _ hT hsm
  rw [hr] at hR
  obtain ⟨ptr, cap, rfl, hcap, hcapm, htk⟩ := hT
  go_enter Tryd.func8, Tryd.ntmps8
  go_wp2_with (go_at_call 11; refine hR.mono ?_; rintro e w1 ⟨rfl, hb1⟩)
  go_loopw [5] (fun i wr => ∃ (k : Nat) (acc : List UInt8), k ≤ tks.length ∧ i = .int .i64 k ∧ Hid (Lib.IsBuilderF 60 5 w1.heap.size w1.heap.size (Lib.byteCells acc) wr) ∧ Hid (Below w1.heap.size w1 wr) ∧ Hid (acc ++ printR (tks.drop k) = printR tks) ∧ acc.length ≤ k * 100000) (fun i _ => tks.length - (intOf i).toNat)
  case atStart =>
    exact ⟨0, [], Nat.zero_le _, rfl, Lib.IsBuilderF.of (Lib.fresh_isBuilder _ _ w1), below1 w1 _, rfl, by simp⟩
  case round =>
    obtain ⟨k, acc, hk, rfl, hI, hB, hP, hal⟩ := hrel
    have hBw : Below w.heap.size w wr := hb1.trans (hB.out.mono hb1.size)
    by_cases hlt : k < tks.length
    · obtain ⟨b, o, rfl, hb, hc⟩ := htk (by omega)
      obtain ⟨sv, c0, c1, c2, c3, c4⟩ := hc k hlt
      have kc := fun (j : Nat) => hBw.cell (p := ⟨b, j, none⟩) hb
      have d0 := (kc _).trans c0
      have d1 := (kc _).trans c1
      have d2 := (kc _).trans c2
      have d3 := (kc _).trans c3
      have hat := Lib.hid c4
      have hrt := hall k hlt
      obtain ⟨hz1, hz2, hz3, hz4⟩ := right_small hrt
      have hkind := right_kind hrt
      have hnext := right_next hop k hlt
      have hdrop := List.drop_eq_getElem_cons hlt
      have hcn : ∀ h : k + 1 < tks.length, w.cell? ⟨b, o + (k + 1) * 4, none⟩ = some (.int .u8 (tks[k + 1]'h).k) := fun h => by
        obtain ⟨_, e0, _⟩ := hc (k + 1) h
        exact e0
      clear c0 c1 c2 c3 c4 kc hc hall hrt
      revert d0 d1 d2 d3 hat hz1 hz2 hz3 hz4 hkind hnext hdrop
      generalize tks[k] = tk
      obtain ⟨tkk, tn, ta, tt⟩ := tk
      intro d0 d1 d2 d3 hat hz1 hz2 hz3 hz4 hkind hnext hdrop
      simp only at d0 d1 d2 d3 hat hz1 hz2 hz3 hz4 hkind hnext
      obtain ⟨ap, ac, rfl⟩ : ∃ a c, sv = .slice a ta.length c := by obtain ⟨a, c, h, -⟩ := hat.out; exact ⟨a, c, h⟩
      rcases hkind with hk1 | hk2 | hk3
      · subst hk1
        have hk1l := hnext rfl
        obtain ⟨nk, hnk, hcn'⟩ : ∃ nk : Int, nk = (tks[k + 1]'hk1l).k ∧ w.cell? ⟨b, o + (k + 1) * 4, none⟩ = some (.int .u8 nk) := ⟨_, rfl, hcn hk1l⟩
        replace hcn' := Lib.hid hcn'
        clear hcn hnext
        go_wp2_with (go_at_call 20
                     show Calls _ _ #[_, .string (ByteArray.mk [60].toArray ++ ByteArray.mk tn.toArray)] _ _
                     rw [bcat]
                     refine (writeStr_any w1.heap.size w1.heap.size acc _ _ (isB_below hI.out (below1 wr _)) (by simp; omega) (by have := hB.out.size; simp; omega)).mono ?_
                     rintro e w2 ⟨rfl, hI2, hb2, hk2⟩
                     have hbox := boxKept hk2 (isB_lt hI.out) (by decide) 2)
        go_loopw [31] (fun i wi => ∃ (j : Nat), j ≤ ta.length ∧ i = .int .i64 j ∧ Hid (Lib.IsBuilderF 60 5 w1.heap.size w1.heap.size (Lib.byteCells (acc ++ ([60] ++ tn) ++ atsL (ta.take j))) wi) ∧ Hid (Below w1.heap.size w1 wi)) (fun i _ => ta.length - (intOf i).toNat)
        case atStart => exact ⟨0, Nat.zero_le _, rfl, Lib.hid (by simpa [atsL] using hI2), (hB.out.alloc hB.out.size _).trans hb2⟩
        case round =>
          obtain ⟨j, hj, rfl, hI3, hB3⟩ := hrel
          have hBw3 : Below w.heap.size w wr := hb1.trans (hB3.out.mono hb1.size)
          by_cases hjl : j < ta.length
          · obtain ⟨ap', ac', hape, hac, hacm, hcells⟩ := hat.out
            injection hape with hape1 hape2 hape3
            subst hape1 hape3
            obtain ⟨ab, ao, rfl, hab, hcc⟩ := hcells (by omega)
            have e1 := (hBw3.cell (p := ⟨ab, ao + j * 2, none⟩) hab).trans (hcc j hjl).1
            have e2 := (hBw3.cell (p := ⟨ab, ao + j * 2 + 1, none⟩) hab).trans (hcc j hjl).2
            have hsz := hz4 _ (List.getElem_mem hjl)
            have hsn := atsL_snoc ta j hjl
            clear hcc hcells
            revert e1 e2 hsz hsn
            generalize ta[j] = at1
            obtain ⟨x, y⟩ := at1
            intro e1 e2 hsz hsn
            simp only at e1 e2 hsz hsn
            have hBs := hB3.out.size
            have hel := escL_len y
            go_wp2_with fail
            have hcat := Lib.hid (atP_cat x y)
            have hlat : (atP (x, y)).length = x.length + (escL y).length + 4 := by simp [atP]; omega
            have hltk := atsL_take hz4 j
            have n1 : ¬ 9223372036854775807 < 1 + x.length := by omega
            have n2 : ¬ 9223372036854775807 < 1 + x.length + 2 := by omega
            have n3 : ¬ 9223372036854775807 < 1 + x.length + 2 + (escL y).length := by omega
            have n4 : ¬ 9223372036854775807 < 1 + x.length + 2 + (escL y).length + 1 := by omega
            have hBs2 : w1.heap.size < wr.heap.size := isB_lt hI3.out
            have K := keepA0 wr 39 (x := .string ⟨x.toArray⟩) (y := .string ⟨y.toArray⟩) hB3.out
            go_region_held3 (fun W => W.cell? ⟨wr.heap.size, 0, none⟩ = some (.string ⟨x.toArray⟩) ∧ W.cell? ⟨wr.heap.size, 1, none⟩ = some (.string ⟨y.toArray⟩) ∧ W.heap[wr.heap.size]? = some (.cells #[.string ⟨x.toArray⟩, .string ⟨y.toArray⟩] 39) ∧ Below w1.heap.size w1 W) (first | exact keepA K hb hBs | exact K | exact keepAO (keepA K hb hBs) hk4 hb4 hBs2)
              (first
                | (go_at_call 21; refine (escape_any y _ (by omega)).mono ?_; rintro e w3 ⟨rfl, hb⟩)
                | (go_at_call 20
                   try rw [hcat.out]
                   refine Calls.mono (writeStr_any w1.heap.size w1.heap.size (acc ++ ([60] ++ tn) ++ atsL (ta.take j)) (atP (x, y)) _ (isB_below hI3.out ((below1 wr _).drew.trans (hb.mono (by simp)))) (by rw [List.length_append, List.length_append, hlat]; simp; omega) (keepA K hb hBs).2.2.2.size) ?_
                   rintro e w4 ⟨rfl, hI4, hb4, hk4⟩))
            go_wp2
            go_roundw
            case rel => exact ⟨j + 1, by omega, by go_num, Lib.hid (by rw [hsn, ← List.append_assoc]; assumption), Lib.hid (by first | assumption | exact (And.right (And.right (And.right (by assumption)))))⟩
            case measure => simp [intOf]; omega
          · have hje : j = ta.length := by omega
            subst hje
            have tok1 := Lib.hid True.intro
            replace hI3 := hI3.out
            rw [List.take_length] at hI3
            replace hI3 := Lib.hid hI3
            have e1 := (hBw3.cell (p := ⟨b, o + (k + 1) * 4, none⟩) hb).trans hcn'.out
            have hlat := atsL_take hz4 ta.length
            rw [List.take_length] at hlat
            have hBs := hB3.out.size
            have hdrop2 := List.drop_eq_getElem_cons hk1l
            by_cases hn2 : nk = 2
            · subst hn2
              have hpr : printR (tks.drop k) = ([60] ++ tn) ++ atsL ta ++ [47] ++ [62] ++ printR (tks.drop (k + 2)) := by
                rw [hdrop, hdrop2, print_beg, if_pos hnk.symm]
                simp only [List.append_assoc]
              go_wp2_with (first
                | (have m0 := tok1.out
                   go_at_call 20
                   refine (writeStr_any w1.heap.size w1.heap.size (acc ++ ([60] ++ tn) ++ atsL ta) [47] _ hI3.out (by simp; omega) hBs).mono ?_
                   rintro e w3 ⟨rfl, hI4, hb4, hk4⟩
                   clear tok1 m0
                   have hBs4 := (hB3.out.trans hb4).size)
                | (go_at_call 20
                   refine (writeStr_any w1.heap.size w1.heap.size (acc ++ ([60] ++ tn) ++ atsL ta ++ [47]) [62] _ hI4 (by simp; omega) hBs4).mono ?_
                   rintro e w5 ⟨rfl, hI5, hb5, hk5⟩))
              go_roundw
              case rel => exact ⟨k + 2, _, by omega, by go_num, Lib.hid hI5, Lib.hid ((hB3.out.trans hb4).trans hb5), Lib.hid (show _ ++ _ ++ printR _ = printR tks from by rw [← hP.out, hpr]; simp only [List.append_assoc]), by simp; omega⟩
              case measure => simp [intOf]; omega
            · have hpr : printR (tks.drop k) = ([60] ++ tn) ++ atsL ta ++ [62] ++ printR (tks.drop (k + 1)) := by
                rw [hdrop, hdrop2, print_beg, if_neg (by rw [← hnk]; exact hn2)]
                simp only [List.append_assoc]
              go_wp2_with (
                   go_at_call 20
                   refine (writeStr_any w1.heap.size w1.heap.size (acc ++ ([60] ++ tn) ++ atsL ta) [62] _ hI3.out (by simp; omega) hBs).mono ?_
                   rintro e w5 ⟨rfl, hI5, hb5, hk5⟩)
              go_roundw
              case rel => exact ⟨k + 1, _, by omega, by go_num, Lib.hid hI5, Lib.hid (hB3.out.trans hb5), Lib.hid (show _ ++ _ ++ printR _ = printR tks from by rw [← hP.out, hpr]; simp only [List.append_assoc]), by simp; omega⟩
              case measure => simp [intOf]; omega
      · subst hk2
        have hpr : printR (tks.drop k) = ([60, 47] ++ tn ++ [62]) ++ printR (tks.drop (k + 1)) := by rw [hdrop]; exact print_end tn ta tt _
        go_wp2_with (go_at_call 20
                     show Calls _ _ #[_, .string (ByteArray.mk [60, 47].toArray ++ ByteArray.mk tn.toArray ++ ByteArray.mk [62].toArray)] _ _
                     rw [bcat, bcat]
                     refine (writeStr_any w1.heap.size w1.heap.size acc _ _ (isB_below hI.out (below1 wr _)) (by simp; omega) (by have := hB.out.size; simp; omega)).mono ?_
                     rintro e w2 ⟨rfl, hI2, hb2, hk2⟩)
        go_roundw
        case rel => exact ⟨k + 1, _, by omega, by go_num, hI2, (hB.out.alloc hB.out.size _).trans hb2, (show _ ++ _ ++ printR _ = printR tks from by rw [List.append_assoc, ← hpr]; exact hP.out), by simp; omega⟩
        case measure => simp [intOf]; omega
      · subst hk3
        have hpr : printR (tks.drop k) = escL tt ++ printR (tks.drop (k + 1)) := by rw [hdrop]; exact print_text tn ta tt _
        have hel := escL_len tt
        go_wp2_with (first
          | (go_at_call 21; refine (escape_any tt _ (by omega)).mono ?_; rintro e w3 ⟨rfl, hb3⟩)
          | (go_at_call 20
             refine (writeStr_any w1.heap.size w1.heap.size acc _ _ (isB_below hI.out ((below1 wr _).trans (hb3.mono (by simp)))) (by omega) (by have := hB.out.size; have := hb3.size; simp at this; omega)).mono ?_
             rintro e w2 ⟨rfl, hI2, hb2, hk2⟩))
        go_roundw
        case rel => exact ⟨k + 1, _, by omega, by go_num, hI2, ((hB.out.alloc hB.out.size _).trans (hb3.mono (by have := hB.out.size; simp; omega))).trans hb2, (show _ ++ _ ++ printR _ = printR tks from by rw [List.append_assoc, ← hpr]; exact hP.out), by simp; omega⟩
        case measure => simp [intOf]; omega
    · have hke : k = tks.length := by omega
      have hd : acc = printR tks := by
        have h := hP.out
        rw [hke, List.drop_length] at h
        simpa [printR] using h
      subst hd
      go_wp2_with (go_at_call 22; refine (string_any w1.heap.size w1.heap.size _ _ hI.out (by have := hB.out.size; omega)).mono ?_; rintro e w2 ⟨rfl, hb2⟩)
      go_ret2
      exact ⟨rfl, hBw.trans (hb2.mono hb1.size)⟩
end Go.Proofs.YtjpdadibeocpfaaDoor
