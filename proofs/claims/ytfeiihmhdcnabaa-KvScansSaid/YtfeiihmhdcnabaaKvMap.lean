/-
  Keys with values, by the program: New, Put, Delete, Get, Len. Condition: the map's pairs are right (okE), texts within the reach.
-/
import Derived.Test.YtfeiihmhdcnabaaKvPure
import Derived.Test.YtfeiihmhdcnabaaProg
import Derived.StringKeys
import Derived.WalkMore
import Derived.Lib.Hide
namespace Go.Proofs.Ytfeiihmhdcnabaa
set_option linter.unusedVariables false
set_option linter.unusedSimpArgs false
open Go.RowKit Go.MapKept Go.Maps Go.WideMaps Go.ChangeMaps
open Go.WideElems (rg)
theorem lawK : Keyed Try.prog 9 := string_keyed Try.underlying9
noncomputable def RM : Value → Option (DataW Unit × List MemPlace) := plainElem Try.prog 9
theorem zeroSt (w : World) : (zeroValue 9).run Try.prog w = .ok (.string ⟨#[]⟩) w := by kernel_rfl
theorem rm_str {s : Txt} (h : s.length ≤ maxLen) : RM (.string ⟨s.toArray⟩) = some (.lit (.string s), []) := by
  have := plainElem_string (H := Unit) Try.underlying9 (s := ⟨s.toArray⟩) (by simpa [ByteArray.size] using h)
  simpa [RM] using this
theorem key_str {s : Txt} (h : s.length ≤ maxLen) : keyOf Try.prog 9 (.string ⟨s.toArray⟩) = some (.string s) := by
  have := keyOf_string_mk Try.underlying9 (s := ⟨s.toArray⟩) (by simpa [ByteArray.size] using h)
  simpa using this
/-- block b is a map of these pairs -/
def KvM (w : World) (b : Nat) (E : Ats) : Prop := w.ownsMap Try.prog 9 RM b E.length (kvD E)
theorem KvM.norm {w : World} {b n : Nat} {E : Ats} (h : w.ownsMap Try.prog 9 RM b n (kvD E)) : KvM w b E := by
  obtain ⟨es, clock, h1, h2, h3, h4⟩ := h
  refine ⟨es, clock, h1, h2, ?_, h4⟩
  have e : E.length = es.size := by
    rw [← kv_size E, h4]
    show ((es.toList.map (rg Try.prog 9 RM)).foldr DataW.insert []).length = _
    rw [length_sorted]
    simp
  omega
theorem str_of {v : Value} {d : Txt} {ps : List MemPlace} (h : RM v = some (.lit (.string d), ps)) : v = .string ⟨d.toArray⟩ := by
  obtain ⟨s, rfl, hz, -⟩ := plainElem_string_inv Try.underlying9 h
  simp only [Prod.mk.injEq, DataW.lit.injEq, Lit.string.injEq] at hz
  obtain ⟨l, rfl, e⟩ := byte_str s
  simp at hz
  rw [hz.1]
theorem KvM.look {w : World} {b : Nat} {E : Ats} (h : KvM w b E) {c : Txt} (hc : c.length ≤ maxLen) :
    (Instr.lookup 59 (.map (some b)) (.string ⟨c.toArray⟩) true).run Try.prog w = .ok (.tuple #[.string ⟨((parE E c).getD []).toArray⟩, .bool (parE E c).isSome]) w := by
  obtain ⟨v, ps, hrun, hv⟩ := World.ownsMap.look_ok (t := 59) (e := 9) h lawK Try.underlying59 (zeroSt w) (zd := .lit (.string [])) (rm_str (s := []) (by simp)) (key_str hc)
  rw [kv_at] at hv
  rw [hrun, str_of hv, kv_has]
theorem KvM.look1 {w : World} {b : Nat} {E : Ats} (h : KvM w b E) {c : Txt} (hc : c.length ≤ maxLen) :
    (Instr.lookup 59 (.map (some b)) (.string ⟨c.toArray⟩) false).run Try.prog w = .ok (.string ⟨((parE E c).getD []).toArray⟩) w := by
  obtain ⟨v, ps, hrun, hv⟩ := World.ownsMap.lookup (t := 59) (e := 9) h lawK Try.underlying59 (zeroSt w) (zd := .lit (.string [])) (rm_str (s := []) (by simp)) (key_str hc)
  rw [kv_at] at hv
  rw [hrun, str_of hv]
theorem KvM.len {w : World} {b : Nat} {E : Ats} (h : KvM w b E) (ty : TypeId) : (Builtin.len_ #[59] ty #[.map (some b)]).run Try.prog w = .ok (.int .i64 E.length) w := by
  rw [World.ownsMap.len (t := 59) (e := 9) h Try.underlying59, kv_size]
theorem KvM.keep {w w' : World} {b : Nat} {E : Ats} {row : Option Nat} (h : KvM w b E) (hg : w.grownBy w' row) (hne : some b ≠ row) : KvM w' b E := World.ownsMap.kept h hg hne
/-- the program's map: its block, the map's block -/
def KvS (w : World) (g b : Nat) (E : Ats) : Prop := okE E ∧ w.heap[g]? = some (.cells #[.map (some b)] 61) ∧ KvM w b E
theorem KvS.ne {w : World} {g b : Nat} {E : Ats} (h : KvS w g b E) : g ≠ b := by
  rintro rfl
  obtain ⟨-, h1, es, cl, h2, -⟩ := h
  rw [h1] at h2
  cases h2
theorem KvS.keep {w w' : World} {g b : Nat} {E : Ats} {row : Option Nat} (h : KvS w g b E) (hg : w.grownBy w' row) (hne : some b ≠ row) (hne2 : some g ≠ row) : KvS w' g b E :=
  ⟨h.1, (hg.block g (Array.getElem?_eq_some_iff.1 h.2.1).1 hne2).trans h.2.1, h.2.2.keep hg hne⟩
theorem grown_refl (w : World) (row : Option Nat) : w.grownBy w row := ⟨rfl, rfl, rfl, Nat.le_refl _, fun _ _ _ => rfl⟩
/-- what Put and Delete come to -/
def KvOut (g b : Nat) (r : Ats × Int) (W : World) (e : Ending) (W' : World) : Prop := e = .returned (.int .i64 r.2) ∧ KvS W' g b r.1 ∧ W.grownBy W' (some b)
theorem al_newK (w : World) (o : Obj) : (w.alloc o).heap[w.heap.size]? = some o := by
  show (w.heap.push o)[w.heap.size]? = some o
  simp
theorem new_any (w : World) : Calls Try.prog 12 #[] w fun e w' => ∃ g b, e = .returned (.pointer (some ⟨g, 0, none⟩)) ∧ w.heap.size ≤ g ∧ w.heap.size ≤ b ∧ KvS w' g b [] ∧ Below w.heap.size w w' := by
  have hmm := @run_makeMap Try.prog
  go_enter Try.func12, Try.ntmps12
  go_wp2
  go_ret
  refine ⟨_, w.heap.size, rfl, by simp, Nat.le_refl _, ⟨ok_nil, by have := al_newK (w.alloc (.map #[] 0)) (.cells #[.map (some w.heap.size)] 61); simpa using this, ?_⟩, belowA (below1 w _) _⟩
  exact KvM.norm (World.ownsMap.alloc (World.ownsMap_made w _ _ _) _)
set_option maxHeartbeats 1000000 in
theorem put_any (g b : Nat) (E : Ats) (c v : Txt) (w : World) (h : KvS w g b E) (hc : c.length ≤ 140737488351232) (hv : v.length ≤ 140737488351232) :
    Calls Try.prog 13 #[.pointer (some ⟨g, 0, none⟩), .string ⟨c.toArray⟩, .string ⟨v.toArray⟩] w (KvOut g b (putE E c v) w) := by
  have hbad : ∀ n : Int, putE E c v = (E, n) → KvOut g b (putE E c v) w (.returned (.int .i64 n)) w := fun n hn => by rw [hn]; exact ⟨rfl, h, grown_refl _ _⟩
  have hself := h
  have hne := Lib.hid h.ne
  obtain ⟨hok, hg, hm⟩ := h
  have hg0 := Lib.hid hg
  obtain ⟨hcell, hfz, hgs⟩ := obj_cells hg
  replace hcell := hcell 0
  simp at hcell
  replace hself := Lib.hid hself
  by_cases h1 : c = []
  · have hr := Lib.hid (hbad 2 (by unfold putE; rw [if_pos (.inl h1)]))
    subst h1
    clear hbad hm hg hfz
    go_enter Try.func13, Try.ntmps13
    go_wp2
    go_ret
    exact hr.out
  · have h1b : (c == []) = false := by simpa using h1
    by_cases h2 : 64 < c.length
    · have hr := Lib.hid (hbad 2 (by unfold putE; rw [if_pos (.inr (.inl h2))]))
      have h2i : (64 : Int) < (c.length : Int) := by omega
      clear hbad hm hg hfz
      replace h1 := Lib.hid h1
      go_enter Try.func13, Try.ntmps13
      go_wp2
      go_ret
      exact hr.out
    · have h2i : ¬ (64 : Int) < (c.length : Int) := by omega
      by_cases h3 : 4096 < v.length
      · have hr := Lib.hid (hbad 2 (by unfold putE; rw [if_pos (.inr (.inr h3))]))
        have h3i : (4096 : Int) < (v.length : Int) := by omega
        clear hbad hm hg hfz
        replace h1 := Lib.hid h1
        go_enter Try.func13, Try.ntmps13
        go_wp2
        go_ret
        exact hr.out
      · have h3i : ¬ (4096 : Int) < (v.length : Int) := by omega
        have hlook := hm.look (c := c) (by unfold maxLen; omega)
        have hlen := hm.len
        have hput : ¬ (c = [] ∨ 64 < c.length ∨ 4096 < v.length) := fun h => h.elim h1 (fun h => h.elim h2 h3)
        have hel := hok.2.1
        by_cases h4 : parE E c = none
        · rw [h4] at hlook
          by_cases h5 : 128 ≤ E.length
          · have hr := Lib.hid (hbad 4 (by unfold putE; rw [if_neg hput, if_pos ⟨h4, h5⟩]))
            have h5i : (128 : Int) ≤ (E.length : Int) := by omega
            clear hbad hm hg hfz hput
            replace h1 := Lib.hid h1
            replace h4 := Lib.hid h4
            go_enter Try.func13, Try.ntmps13
            go_wp2
            go_ret
            exact hr.out
          · have h5i : ¬ (128 : Int) ≤ (E.length : Int) := by omega
            have hr : Hid (putE E c v = (insE c v E, 0)) := Lib.hid (by unfold putE; rw [if_neg hput, if_neg (fun h => h5 h.2)])
            have hok2 := Lib.hid (ok_put hok c v)
            have hs := Lib.hid hok.1
            have hown := Lib.hid hm
            clear hbad hg hput hm hok hself
            replace h1 := Lib.hid h1
            replace h4 := Lib.hid h4
            go_enter Try.func13, Try.ntmps13
            go_wp2_with (at_mapUpdate; refine wpList_mapUpdate_own _ rfl _ _ _ 59 rfl 9 9 lawK Try.underlying59 _ b E.length (kvD E) rfl hown.out (by unfold maxLen; omega) _ _ (.string c) rfl rfl (key_str (by unfold maxLen; omega)) (.lit (.string v)) [] (rm_str (by unfold maxLen; omega)) ?_; intro w1 hown1 hgrow1)
            go_ret
            rw [hr.out] at hok2 ⊢
            rw [kv_put hs.out] at hown1
            exact ⟨rfl, ⟨hok2.out, (hgrow1.block g hgs (by simpa using hne.out)).trans hg0.out, KvM.norm hown1⟩, hgrow1⟩
        · obtain ⟨q, hq⟩ := Option.ne_none_iff_exists'.1 h4
          rw [hq] at hlook
          have hr : Hid (putE E c v = (insE c v E, 0)) := Lib.hid (by unfold putE; rw [if_neg hput, if_neg (fun h => h4 h.1)])
          have hok2 := Lib.hid (ok_put hok c v)
          have hs := Lib.hid hok.1
          have hown := Lib.hid hm
          clear hbad hg hput hm hok hself hq h4
          replace h1 := Lib.hid h1
          go_enter Try.func13, Try.ntmps13
          go_wp2_with (at_mapUpdate; refine wpList_mapUpdate_own _ rfl _ _ _ 59 rfl 9 9 lawK Try.underlying59 _ b E.length (kvD E) rfl hown.out (by unfold maxLen; omega) _ _ (.string c) rfl rfl (key_str (by unfold maxLen; omega)) (.lit (.string v)) [] (rm_str (by unfold maxLen; omega)) ?_; intro w1 hown1 hgrow1)
          go_ret
          rw [hr.out] at hok2 ⊢
          rw [kv_put hs.out] at hown1
          exact ⟨rfl, ⟨hok2.out, (hgrow1.block g hgs (by simpa using hne.out)).trans hg0.out, KvM.norm hown1⟩, hgrow1⟩
set_option maxHeartbeats 1000000 in
theorem delete_any (g b : Nat) (E : Ats) (c : Txt) (w : World) (h : KvS w g b E) (hc : c.length ≤ 140737488351232) :
    Calls Try.prog 20 #[.pointer (some ⟨g, 0, none⟩), .string ⟨c.toArray⟩] w (KvOut g b (dropE E c) w) := by
  have hself := h
  have hne := Lib.hid h.ne
  obtain ⟨hok, hg, hm⟩ := h
  obtain ⟨hcell, hfz, hgs⟩ := obj_cells hg
  replace hcell := hcell 0
  simp at hcell
  have hg0 := Lib.hid hg
  have hlook := hm.look (c := c) (by unfold maxLen; omega)
  by_cases h4 : parE E c = none
  · have hr : Hid (dropE E c = (E, 10)) := Lib.hid (by unfold dropE; rw [if_pos h4])
    rw [h4] at hlook
    replace hself := Lib.hid hself
    clear hg hm hok h4
    go_enter Try.func20, Try.ntmps20
    go_wp2
    go_ret
    rw [hr.out]
    exact ⟨rfl, hself.out, grown_refl _ _⟩
  · have hr : Hid (dropE E c = (remE E c, 0)) := Lib.hid (by unfold dropE; rw [if_neg h4])
    have hok2 := Lib.hid (ok_rem hok c)
    obtain ⟨q, hq⟩ := Option.ne_none_iff_exists'.1 h4
    rw [hq] at hlook
    have hown := Lib.hid hm
    clear hself hg hm hok hq h4
    go_enter Try.func20, Try.ntmps20
    go_wp2_with (at_delete; refine wpList_delete_own _ rfl _ _ 59 9 rfl 9 lawK Try.underlying59 _ b E.length (kvD E) rfl hown.out _ (.string c) rfl (key_str (by unfold maxLen; omega)) ?_; intro w1 hown1 hturn1)
    go_ret
    rw [hr.out]
    rw [kv_del] at hown1
    exact ⟨rfl, ⟨hok2.out, (hturn1.grown.block g hgs (by simpa using hne.out)).trans hg0.out, KvM.norm hown1⟩, hturn1.grown⟩
theorem get_any (g b : Nat) (E : Ats) (c : Txt) (w : World) (h : KvS w g b E) (hc : c.length ≤ 140737488351232) :
    Calls Try.prog 19 #[.pointer (some ⟨g, 0, none⟩), .string ⟨c.toArray⟩] w fun e w' => e = .returned (.tuple #[.string ⟨((parE E c).getD []).toArray⟩, .bool (parE E c).isSome]) ∧ w' = w := by
  obtain ⟨hok, hg, hm⟩ := h
  obtain ⟨hcell, hfz, hgs⟩ := obj_cells hg
  replace hcell := hcell 0
  simp at hcell
  have hlook := hm.look (c := c) (by unfold maxLen; omega)
  generalize (parE E c).getD [] = x at hlook ⊢
  generalize (parE E c).isSome = y at hlook ⊢
  clear hg hm hok
  go_enter Try.func19, Try.ntmps19
  go_wp2
  go_ret2
  exact ⟨rfl, rfl⟩
theorem kvLen_any (g b : Nat) (E : Ats) (w : World) (h : KvS w g b E) :
    Calls Try.prog 15 #[.pointer (some ⟨g, 0, none⟩)] w fun e w' => e = .returned (.int .i64 E.length) ∧ w' = w := by
  obtain ⟨hok, hg, hm⟩ := h
  obtain ⟨hcell, hfz, hgs⟩ := obj_cells hg
  replace hcell := hcell 0
  simp at hcell
  have hlen := hm.len
  clear hg hm hok
  go_enter Try.func15, Try.ntmps15
  go_wp2
  go_ret
  exact ⟨rfl, rfl⟩
end Go.Proofs.Ytfeiihmhdcnabaa
