/-
  The walk of KvUndoes.
-/
import Derived.Test.YtfeiihmhdcnabaaKvSame
namespace Go.Proofs.Ytfeiihmhdcnabaa
set_option linter.unusedVariables false
set_option linter.unusedSimpArgs false
open Go.RowKit Go.MapKept
/-- a call on the program's map alone: the reference's stays -/
theorem kv_more {n0 : Nat} {w w1 : World} {g b gr : Nat} {E F E1 : Ats} (h : KvS w g b E) (hr : RfS w gr F) (h0 : n0 ≤ w.heap.size) (hbb : n0 ≤ b) (h1 : KvS w1 g b E1) (g1 : w.grownBy w1 (some b)) : RfS w1 gr F ∧ Below n0 w w1 :=
  ⟨hr.but g1 (Both.apart (n0 := n0) h hr).1 h.no_str, (Below.refl n0 w).grown g1 h0 (fun k e => by cases e; exact hbb)⟩
theorem put_is {E : Ats} {c v : Txt} (h : parE E c ≠ none) : (putE E c v).2 ≠ 4 ∧ parE (putE E c v).1 c ≠ none := by
  unfold putE
  split
  · exact ⟨by simp, h⟩
  · rw [if_neg (fun x => h x.1)]
    exact ⟨by simp, by rw [par_ins, if_pos rfl]; simp⟩
theorem drop_is {E : Ats} {c : Txt} (h : parE E c ≠ none) : dropE E c = (remE E c, 0) := by unfold dropE; rw [if_neg h]
theorem drop_no {E : Ats} {c : Txt} (h : parE E c = none) : dropE E c = (E, 10) := by unfold dropE; rw [if_pos h]
theorem par_rem (E : Ats) (c : Txt) : parE (remE E c) c = none := par_small (fun e he => rem_no E c e he)
theorem put_new {E : Ats} {c v : Txt} (h : parE E c = none) (hp : (putE E c v).2 = 0) : (putE E c v).1 = insE c v E := by
  unfold putE at hp ⊢
  split at hp
  · cases hp
  · rename_i h1
    split at hp
    · cases hp
    · rename_i h2
      rw [if_neg h1, if_neg h2]
theorem put_bad {E : Ats} {c v : Txt} (hp : (putE E c v).2 ≠ 0) : (putE E c v).1 = E := by
  unfold putE at hp ⊢
  split
  · rfl
  · rename_i h1
    rw [if_neg h1] at hp
    split
    · rfl
    · rename_i h2
      rw [if_neg h2] at hp
      exact absurd rfl hp
def KS (n0 : Nat) (w : World) (g b gr : Nat) (E F : Ats) : Prop := KvS w g b E ∧ RfS w gr F ∧ n0 ≤ b ∧ n0 ≤ gr ∧ n0 ≤ w.heap.size
theorem KS.step {n0 : Nat} {w0 w w1 : World} {g b gr : Nat} {E F E1 : Ats} (h : KS n0 w g b gr E F) (hb : Below n0 w0 w) (h1 : KvS w1 g b E1) (g1 : w.grownBy w1 (some b)) : KS n0 w1 g b gr E1 F ∧ Below n0 w0 w1 := by
  obtain ⟨a1, a2, a3, a4, a5⟩ := h
  obtain ⟨h2, h3⟩ := kv_more a1 a2 a5 a3 h1 g1
  exact ⟨⟨h1, h2, a3, a4, Nat.le_trans a5 g1.size⟩, hb.trans h3⟩
set_option maxHeartbeats 2000000 in
theorem kvUndoes_walk (v : Value) (l : List Dd) (key val : Txt) (w : World) (h : DdS w v l) (hB : DdB l) (hk : key.length ≤ 140737488351232) (hv : val.length ≤ 140737488351232) :
    Calls Try.prog 6 #[v, .string ⟨key.toArray⟩, .string ⟨val.toArray⟩] w fun e w' => e = .returned (.bool true) ∧ Below w.heap.size w w' := by
  have hP := Lib.hid (play_any v l w h hB)
  have hL := Lib.hid live_kv
  generalize hE0 : playE [] (l.take 60) = E at hP
  have hSa : Hid (∀ g b gr W, KS w.heap.size W g b gr E E → Calls Try.prog 17 #[.pointer (some ⟨g, 0, none⟩), .pointer (some ⟨gr, 0, none⟩), .string ⟨key.toArray⟩] W fun e w' => e = .returned (.bool true) ∧ Below W.heap.size W w') := Lib.hid fun g b gr W h => same_any w.heap.size g b gr E key W ⟨h.1, h.2.1, h.2.2.1, h.2.2.2.1⟩ hk
  have hG := fun g b W (h : KvS W g b E) => (get_any g b E key W h hk).mono (fun e w' h => (⟨h.1, h.2.symm⟩ : _ ∧ W = w'))
  have hPut := fun g b W (h : KvS W g b E) => put_any g b E key val W h hk hv
  obtain ⟨va, vn, vc, rfl⟩ : ∃ a n c, v = .slice a n c := by obtain ⟨a, c, h, -⟩ := h; exact ⟨a, _, c, h⟩
  by_cases hp : parE E key = none
  · rw [hp] at hG
    by_cases hc : (putE E key val).2 = 0
    · have e1 := put_new hp hc
      have hPut' : Hid (∀ g b W, KvS W g b E → Calls Try.prog 13 #[.pointer (some ⟨g, 0, none⟩), .string ⟨key.toArray⟩, .string ⟨val.toArray⟩] W fun e w' => e = .returned (.int .i64 0) ∧ KvS w' g b (insE key val E) ∧ W.grownBy w' (some b)) := Lib.hid fun g b W h => (hPut g b W h).mono fun e w' h => by
        obtain ⟨h1, h2, h3⟩ := h
        rw [hc] at h1
        rw [e1] at h2
        exact ⟨h1, h2, h3⟩
      have hG2 : Hid (∀ g b W, KvS W g b (insE key val E) → Calls Try.prog 19 #[.pointer (some ⟨g, 0, none⟩), .string ⟨key.toArray⟩] W fun e w' => e = .returned (.tuple #[.string ⟨val.toArray⟩, .bool true]) ∧ W = w') := Lib.hid fun g b W h => by
        have := get_any g b _ key W h hk
        rw [par_ins, if_pos rfl] at this
        exact this.mono (fun e w' h => ⟨h.1, h.2.symm⟩)
      have hD : Hid (∀ g b W, KvS W g b (insE key val E) → Calls Try.prog 20 #[.pointer (some ⟨g, 0, none⟩), .string ⟨key.toArray⟩] W fun e w' => e = .returned (.int .i64 0) ∧ KvS w' g b E ∧ W.grownBy w' (some b)) := Lib.hid fun g b W h => by
        have := delete_any g b _ key W h hk
        rw [drop_is (by rw [par_ins, if_pos rfl]; simp), rem_ins, rem_none hp] at this
        exact this
      replace hG := Lib.hid hG
      clear hPut e1 hc hp h hB hk hv hE0
      go_enter Try.func6, Try.ntmps6
      go_wp2_with (first
        | (have m0 := m6; go_at_call 17; refine (hSa.out _ _ _ _ hK6.out).mono ?_; rintro e w7 ⟨rfl, hbn⟩; have hb7 := Lib.hid (belowT hb6.out hbn); clear hbn)
        | (have m0 := m5; go_at_call 20; refine (hD.out _ _ _ hK4.out.1).mono ?_; rintro e w6 ⟨rfl, hk6, hg6⟩; obtain ⟨hK6, hb6⟩ := KS.step (n0 := w.heap.size) hK4.out hb4.out hk6 hg6; replace hK6 := Lib.hid hK6; replace hb6 := Lib.hid hb6; clear hk6 hg6; have m6 := True.intro)
        | (have m0 := hb4; go_at_call 19; refine (hG2.out _ _ _ hK4.out.1).mono ?_; rintro e w5 ⟨rfl, rfl⟩; have m5 := True.intro)
        | (have m0 := m3; go_at_call 13; refine (hPut'.out _ _ _ hK2.out.1).mono ?_; rintro e w4 ⟨rfl, hk4, hg4⟩; obtain ⟨hK4, hb4⟩ := KS.step (n0 := w.heap.size) hK2.out hb2.out hk4 hg4; replace hK4 := Lib.hid hK4; replace hb4 := Lib.hid hb4; clear hk4 hg4)
        | (have m0 := hb2; go_at_call 19; refine (hG.out _ _ _ hK2.out.1).mono ?_; rintro e w3 ⟨rfl, rfl⟩; have m3 := True.intro)
        | (have m0 := hb1; go_at_call 14; refine (hL.out _).mono ?_; rintro e w2 ⟨rfl, hbn⟩; have hb2 := Lib.hid (belowT hb1.out hbn); have hBo2 := hBo.out.below hbn; have hK2 := Lib.hid (⟨hBo2.kv, hBo2.rf, hBo2.hb, hBo2.hr, hb2.out.size⟩ : KS w.heap.size w2 g b gr E E); clear hbn hBo2)
        | (go_at_call 16; refine hP.out.mono ?_; rintro e w1 ⟨g, b, gr, rfl, hBo, hb1⟩; replace hBo := Lib.hid hBo; replace hb1 := Lib.hid hb1))
      go_ret
      exact ⟨by simp, hb7.out⟩
    · have e1 := put_bad hc
      obtain ⟨n, hn⟩ : ∃ n, (putE E key val).2 = n := ⟨_, rfl⟩
      rw [hn] at hc
      have hcb : (n == 0) = false := by simpa using hc
      have hPut' : Hid (∀ g b W, KvS W g b E → Calls Try.prog 13 #[.pointer (some ⟨g, 0, none⟩), .string ⟨key.toArray⟩, .string ⟨val.toArray⟩] W fun e w' => e = .returned (.int .i64 n) ∧ KvS w' g b E ∧ W.grownBy w' (some b)) := Lib.hid fun g b W h => (hPut g b W h).mono fun e w' h => by
        obtain ⟨h1, h2, h3⟩ := h
        rw [hn] at h1
        rw [e1] at h2
        exact ⟨h1, h2, h3⟩
      replace hG := Lib.hid hG
      replace hc := Lib.hid hc
      clear hPut e1 hp h hB hk hv hE0 hn
      go_enter Try.func6, Try.ntmps6
      go_wp2_with (first
        | (have m0 := hb4; go_at_call 17; refine (hSa.out _ _ _ _ hK4.out).mono ?_; rintro e w7 ⟨rfl, hbn⟩; have hb7 := Lib.hid (belowT hb4.out hbn); clear hbn)
        | (have m0 := m3; go_at_call 13; refine (hPut'.out _ _ _ hK2.out.1).mono ?_; rintro e w4 ⟨rfl, hk4, hg4⟩; obtain ⟨hK4, hb4⟩ := KS.step (n0 := w.heap.size) hK2.out hb2.out hk4 hg4; replace hK4 := Lib.hid hK4; replace hb4 := Lib.hid hb4; clear hk4 hg4)
        | (have m0 := hb2; go_at_call 19; refine (hG.out _ _ _ hK2.out.1).mono ?_; rintro e w3 ⟨rfl, rfl⟩; have m3 := True.intro)
        | (have m0 := hb1; go_at_call 14; refine (hL.out _).mono ?_; rintro e w2 ⟨rfl, hbn⟩; have hb2 := Lib.hid (belowT hb1.out hbn); have hBo2 := hBo.out.below hbn; have hK2 := Lib.hid (⟨hBo2.kv, hBo2.rf, hBo2.hb, hBo2.hr, hb2.out.size⟩ : KS w.heap.size w2 g b gr E E); clear hbn hBo2)
        | (go_at_call 16; refine hP.out.mono ?_; rintro e w1 ⟨g, b, gr, rfl, hBo, hb1⟩; replace hBo := Lib.hid hBo; replace hb1 := Lib.hid hb1))
      go_ret
      exact ⟨rfl, hb7.out⟩
  · obtain ⟨q, hq⟩ : ∃ q, parE E key = some q := by
      cases hx : parE E key with
      | none => exact absurd hx hp
      | some q => exact ⟨q, rfl⟩
    rw [hq] at hG
    obtain ⟨c1, c2⟩ := put_is (v := val) hp
    obtain ⟨n, hn⟩ : ∃ n, (putE E key val).2 = n := ⟨_, rfl⟩
    obtain ⟨E1, hE1⟩ : ∃ E1, (putE E key val).1 = E1 := ⟨_, rfl⟩
    rw [hn] at c1
    rw [hE1] at c2
    have hcb : (n == 4) = false := by simpa using c1
    have hPut' : Hid (∀ g b W, KvS W g b E → Calls Try.prog 13 #[.pointer (some ⟨g, 0, none⟩), .string ⟨key.toArray⟩, .string ⟨val.toArray⟩] W fun e w' => e = .returned (.int .i64 n) ∧ KvS w' g b E1 ∧ W.grownBy w' (some b)) := Lib.hid fun g b W h => (hPut g b W h).mono fun e w' h => by
      obtain ⟨h1, h2, h3⟩ := h
      rw [hn] at h1
      rw [hE1] at h2
      exact ⟨h1, h2, h3⟩
    have hD : Hid (∀ g b W, KvS W g b E1 → Calls Try.prog 20 #[.pointer (some ⟨g, 0, none⟩), .string ⟨key.toArray⟩] W fun e w' => e = .returned (.int .i64 0) ∧ KvS w' g b (remE E1 key) ∧ W.grownBy w' (some b)) := Lib.hid fun g b W h => by
      have := delete_any g b _ key W h hk
      rw [drop_is c2] at this
      exact this
    have hD2 : Hid (∀ g b W, KvS W g b (remE E1 key) → Calls Try.prog 20 #[.pointer (some ⟨g, 0, none⟩), .string ⟨key.toArray⟩] W fun e w' => e = .returned (.int .i64 10) ∧ KvS w' g b (remE E1 key) ∧ W.grownBy w' (some b)) := Lib.hid fun g b W h => by
      have := delete_any g b _ key W h hk
      rw [drop_no (par_rem _ _)] at this
      exact this
    replace hG := Lib.hid hG
    replace c1 := Lib.hid c1
    clear hPut c2 hp h hB hk hv hE0 hn hE1 hq
    go_enter Try.func6, Try.ntmps6
    go_wp2_with (first
      | (have m0 := hb5; go_at_call 20; refine (hD2.out _ _ _ hK5.out.1).mono ?_; rintro e w6 ⟨rfl, hk6, hg6⟩; obtain ⟨hK6, hb6⟩ := KS.step (n0 := w.heap.size) hK5.out hb5.out hk6 hg6; replace hK6 := Lib.hid hK6; replace hb6 := Lib.hid hb6; clear hk6 hg6)
      | (have m0 := hb4; go_at_call 20; refine (hD.out _ _ _ hK4.out.1).mono ?_; rintro e w5 ⟨rfl, hk5, hg5⟩; obtain ⟨hK5, hb5⟩ := KS.step (n0 := w.heap.size) hK4.out hb4.out hk5 hg5; replace hK5 := Lib.hid hK5; replace hb5 := Lib.hid hb5; clear hk5 hg5)
      | (have m0 := m3; go_at_call 13; refine (hPut'.out _ _ _ hK2.out.1).mono ?_; rintro e w4 ⟨rfl, hk4, hg4⟩; obtain ⟨hK4, hb4⟩ := KS.step (n0 := w.heap.size) hK2.out hb2.out hk4 hg4; replace hK4 := Lib.hid hK4; replace hb4 := Lib.hid hb4; clear hk4 hg4)
      | (have m0 := hb2; go_at_call 19; refine (hG.out _ _ _ hK2.out.1).mono ?_; rintro e w3 ⟨rfl, rfl⟩; have m3 := True.intro)
      | (have m0 := hb1; go_at_call 14; refine (hL.out _).mono ?_; rintro e w2 ⟨rfl, hbn⟩; have hb2 := Lib.hid (belowT hb1.out hbn); have hBo2 := hBo.out.below hbn; have hK2 := Lib.hid (⟨hBo2.kv, hBo2.rf, hBo2.hb, hBo2.hr, hb2.out.size⟩ : KS w.heap.size w2 g b gr E E); clear hbn hBo2)
      | (go_at_call 16; refine hP.out.mono ?_; rintro e w1 ⟨g, b, gr, rfl, hBo, hb1⟩; replace hBo := Lib.hid hBo; replace hb1 := Lib.hid hb1))
    go_ret
    exact ⟨by simpa using c1.out, hb6.out⟩
end Go.Proofs.Ytfeiihmhdcnabaa
