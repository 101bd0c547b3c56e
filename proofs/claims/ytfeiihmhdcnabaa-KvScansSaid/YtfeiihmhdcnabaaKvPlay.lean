/-
  Deeds on both maps. Condition: texts within the reach.
-/
import Derived.Test.YtfeiihmhdcnabaaKvDo
import Derived.OwnWalk
namespace Go.Proofs.Ytfeiihmhdcnabaa
set_option linter.unusedVariables false
set_option linter.unusedSimpArgs false
open Go.RowKit Go.MapKept
/-- a slice of deeds -/
def DdS (w : World) (v : Value) (l : List Dd) : Prop :=
  ∃ ptr cap, v = .slice ptr l.length cap ∧ l.length ≤ cap ∧ cap ≤ maxLen ∧ (0 < l.length → ∃ b o, ptr = some ⟨b, o, none⟩ ∧ b < w.heap.size ∧
    ∀ i (h : i < l.length), w.cell? ⟨b, o + i * 3, none⟩ = some (.int .i64 (l[i]'h).k) ∧ w.cell? ⟨b, o + i * 3 + 1, none⟩ = some (.string ⟨(l[i]'h).c.toArray⟩) ∧ w.cell? ⟨b, o + i * 3 + 2, none⟩ = some (.string ⟨(l[i]'h).v.toArray⟩))
def DdB (l : List Dd) : Prop := ∀ x ∈ l, x.c.length ≤ 140737488351232 ∧ x.v.length ≤ 140737488351232
theorem DdS.below {w w' : World} {v : Value} {l : List Dd} (h : DdS w v l) (hb : Below w.heap.size w w') : DdS w' v l := by
  obtain ⟨p, c, h1, h2, h3, h4⟩ := h
  refine ⟨p, c, h1, h2, h3, fun h0 => ?_⟩
  obtain ⟨b, o, e, hbl, hc⟩ := h4 h0
  have hk := fun (j : Nat) => hb.cell (p := ⟨b, j, none⟩) hbl
  exact ⟨b, o, e, Nat.lt_of_lt_of_le hbl hb.size, fun i hi => ⟨(hk _).trans (hc i hi).1, (hk _).trans (hc i hi).2.1, (hk _).trans (hc i hi).2.2⟩⟩
theorem play_snoc {E : Ats} {l : List Dd} {k : Nat} (h : k < l.length) : playE E (l.take (k + 1)) = deedE (playE E (l.take k)) (l[k]'h) := by
  unfold playE
  rw [List.take_add_one, List.getElem?_eq_getElem h, List.foldl_append]
  rfl
theorem play_any (v : Value) (l : List Dd) (w : World) (h : DdS w v l) (hB : DdB l) :
    Calls Try.prog 16 #[v] w fun e w' => ∃ g b gr, e = .returned (.tuple #[.pointer (some ⟨g, 0, none⟩), .pointer (some ⟨gr, 0, none⟩), .bool true]) ∧ Both w.heap.size w' g b gr (playE [] (l.take 60)) ∧ Below w.heap.size w w' := by
  obtain ⟨N, hN⟩ : ∃ N, l.length = N := ⟨_, rfl⟩
  obtain ⟨p, c, rfl, h2, h3, hat⟩ := h
  rw [hN] at h2 ⊢
  have hN63 : (N : Int) ≤ 9223372036854775807 := by unfold maxLen at h3; omega
  replace hB := Lib.hid hB
  replace hat := Lib.hid hat
  replace hN := Lib.hid hN
  have hb0 := Lib.hid (Below.refl w.heap.size w)
  clear h2 h3
  go_enter Try.func16, Try.ntmps16
  go_wp2_with (first
    | (have m0 := hb1; go_at_call 28; refine (refNew_any _).mono ?_; rintro e w2 ⟨gr, rfl, hgr, hR, hbn⟩; have hBo := Lib.hid (⟨hK.out.below hbn, hR, hbb, Nat.le_trans hb1.out.size hgr⟩ : Both w.heap.size w2 g b gr []); have hb2 := Lib.hid (belowT hb1.out hbn); clear hbn hR)
    | (have m0 := hb0; go_at_call 12; refine (new_any w).mono ?_; rintro e w1 ⟨g, b, rfl, hgg, hbb, hK, hbn⟩; replace hK := Lib.hid hK; have hb1 := Lib.hid hbn; clear hbn))
  go_loopw [7] (fun s7 wr => ∃ k : Nat, k ≤ N ∧ k ≤ 60 ∧ s7 = .int .i64 k ∧ Hid (Both w.heap.size wr g b gr (playE [] (l.take k))) ∧ Hid (Below w.heap.size w wr)) (fun s7 _ => 60 - (intOf s7).toNat)
  case atStart => exact ⟨0, Nat.zero_le _, Nat.zero_le _, rfl, hBo, hb2⟩
  case round =>
    clear hBo hb2 hK hb1 hb0
    obtain ⟨k, hk, hk60, rfl, hBo, hW⟩ := hrel
    by_cases hlt : k < N
    · have hki : (k : Int) < (N : Int) := by omega
      by_cases hl6 : k < 60
      · have h6i : (k : Int) < 60 := by omega
        have hk0 : (0 : Int) ≤ (k : Int) := by omega
        have hk3 : k < l.length := by have := hN.out; omega
        obtain ⟨pb, o, rfl, hb, hcc⟩ := hat.out (by omega)
        obtain ⟨d0, d1, d2⟩ := hcc k hk3
        have kc := fun (j : Nat) => hW.out.cell (p := ⟨pb, j, none⟩) hb
        replace d0 := (kc _).trans d0
        replace d1 := (kc _).trans d1
        replace d2 := (kc _).trans d2
        have hsn := play_snoc (E := []) hk3
        obtain ⟨hx1, hx2⟩ := hB.out _ (List.getElem_mem hk3)
        have hDo := do_any w.heap.size g b gr _ (l[k]'hk3) wr hBo.out hW.out.size hx1 hx2
        clear hcc kc hx1 hx2
        generalize hE : l[k] = x at d0 d1 d2 hsn hDo
        obtain ⟨xk, xc, xv⟩ := x
        simp only at d0 d1 d2
        clear hE
        replace hsn := Lib.hid hsn
        replace hDo := Lib.hid hDo
        have hbw : pb < wr.heap.size := Nat.lt_of_lt_of_le hb hW.out.size
        go_wp2_with (go_at_call 26; refine hDo.out.mono ?_; rintro e w3 ⟨rfl, hBn, hbn⟩; replace hBn := Lib.hid hBn; have hW3 := Lib.hid (hW.out.trans hbn); clear hbn)
        go_roundw
        case rel =>
          refine ⟨k + 1, by omega, by omega, by simp, ?_, hW3⟩
          rw [hsn.out]
          exact hBn
        case measure => simp [intOf]; omega
      · obtain rfl : k = 60 := by omega
        go_wp2
        go_ret3
        exact ⟨g, b, gr, rfl, hBo.out, hW.out⟩
    · obtain rfl : k = N := by omega
      have hki : ¬ (k : Int) < (k : Int) := by omega
      have hbo2 : Hid (Both w.heap.size wr g b gr (playE [] (l.take 60))) := Lib.hid (by
        have := hBo.out
        rwa [List.take_of_length_le (by have := hN.out; omega), ← List.take_of_length_le (l := l) (i := 60) (by have := hN.out; omega)] at this)
      go_wp2
      go_ret3
      exact ⟨g, b, gr, rfl, hbo2.out, hW.out⟩
theorem ok_play (l : List Dd) : okE (playE [] l) := by
  suffices h : ∀ E, okE E → okE (playE E l) from h [] ok_nil
  induction l with
  | nil => exact fun E h => h
  | cons x r ih =>
    intro E h
    refine ih _ ?_
    unfold deedE
    split
    · exact ok_put h _ _
    · split
      · exact ok_drop h _
      · exact h
end Go.Proofs.Ytfeiihmhdcnabaa
