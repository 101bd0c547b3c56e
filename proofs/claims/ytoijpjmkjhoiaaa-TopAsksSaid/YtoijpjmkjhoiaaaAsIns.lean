/-
  One more behind a list (slices.Insert at the end), by the program: a first subscription, a second affiliation. No condition.
-/
import Derived.Test.YtoijpjmkjhoiaaaAsFn
namespace Go.Proofs.Ytoijpjmkjhoiaaa
set_option linter.unusedVariables false
set_option linter.unusedSimpArgs false
open Go.RowKit Go.MapKept Go.Shelf
theorem sub_push (W : World) (base vb : Nat) (v : Value) (l : List (Tx × Bool × Int)) (s : Tx × Bool × Int) (hO : W.ownsRow base 46 3 v l.length (suC l)) (hl : l.length ≤ 2) (hb : base ≤ W.heap.size) (hv : W.heap[vb]? = some (.cells #[.string ⟨s.1.toArray⟩, .bool s.2.1, .int .i64 s.2.2] 46 (0, 0))) :
    ∃ v' w', (Builtin.append_ #[27, 27] 27 #[v, .slice (some ⟨vb, 0, none⟩) 1 1]).run Try.prog W = .ok v' w' ∧ w'.ownsRow base 46 3 v' (l ++ [s]).length (suC (l ++ [s])) ∧ Below base W w' := by
  obtain ⟨i0, hi, hz0, hz1, hz2⟩ := infoSu
  have hnews : ∀ j u, (suC [s])[j]? = some u → W.cell? ((⟨vb, 0, none⟩ : Addr).add j) = some u := fun j u hj => by
    rw [Addr.add_lit, Nat.zero_add, (obj_cells hv).1]
    simpa [suC] using hj
  obtain ⟨v', w', hrun, hown, hgr, _, _⟩ := run_append_own_at (P := Try.prog) W base 27 27 46 i0 _ 3 32 Try.underlying27 hi hz0 hz1 hz2 rfl (by decide) _ _ _ hO ⟨vb, 0, none⟩ 1 1 (suC [s]) rfl hnews (suC_one _) (by unfold maxLen; omega) (by omega) hb
  refine ⟨v', w', hrun, ?_, (Below.refl base W).grown hgr hb (fun k hk => (hO.lt k hk).1)⟩
  rw [List.length_append]
  simpa [suC] using hown
theorem grown_pre {w W w' : World} {r : Option Nat} (h : Below w.heap.size w W) (hg : W.grownBy w' r) : w.grownBy w' r :=
  ⟨hg.os.trans h.os, hg.tape.trans h.tape, hg.output.trans h.output, Nat.le_trans h.size hg.size, fun k hk hne => (hg.block k (Nat.lt_of_lt_of_le hk h.size) hne).trans (h.block k hk)⟩
theorem aff_push (W : World) (base vb : Nat) (v : Value) (l : List (Tx × Nat)) (s : Tx × Nat) (hO : W.ownsRow base 25 2 v l.length (afC l)) (hl : l.length ≤ 2) (hb : base ≤ W.heap.size) (hv : W.heap[vb]? = some (.cells #[.string ⟨s.1.toArray⟩, .int .u8 s.2] 25 (0, 0))) :
    ∃ v' w', (Builtin.append_ #[26, 26] 26 #[v, .slice (some ⟨vb, 0, none⟩) 1 1]).run Try.prog W = .ok v' w' ∧ w'.ownsRow base 25 2 v' (l ++ [s]).length (afC (l ++ [s])) ∧ Below base W w' ∧ W.grownBy w' v.ownBlock := by
  obtain ⟨i0, hi, hz0, hz1, hz2⟩ := infoAff
  have hnews : ∀ j u, (afC [s])[j]? = some u → W.cell? ((⟨vb, 0, none⟩ : Addr).add j) = some u := fun j u hj => by
    rw [Addr.add_lit, Nat.zero_add, (obj_cells hv).1]
    simpa [afC] using hj
  obtain ⟨v', w', hrun, hown, hgr, _, _⟩ := run_append_own_at (P := Try.prog) W base 26 26 25 i0 _ 2 24 Try.underlying26 hi hz0 hz1 hz2 rfl (by decide) _ _ _ hO ⟨vb, 0, none⟩ 1 1 (afC [s]) rfl hnews (afC_one _) (by unfold maxLen; omega) (by omega) hb
  refine ⟨v', w', hrun, ?_, (Below.refl base W).grown hgr hb (fun k hk => (hO.lt k hk).1), hgr⟩
  rw [List.length_append]
  simpa [afC] using hown
set_option maxRecDepth 100000 in
set_option maxHeartbeats 2000000 in
theorem insSub_any (vb : Nat) (s : Tx × Bool × Int) (w : World) (hv : w.heap[vb]? = some (.cells #[.string ⟨s.1.toArray⟩, .bool s.2.1, .int .i64 s.2.2] 46 (0, 0))) :
    Calls Try.prog 44 #[.slice none 0 0, .int .i64 0, .slice (some ⟨vb, 0, none⟩) 1 1] w fun e w' => ∃ v', e = .returned v' ∧ w'.ownsRow w.heap.size 46 3 v' 1 (suC [s]) ∧ Below w.heap.size w w' := by
  obtain ⟨v9, w9, hr, hO, hB⟩ := sub_push w w.heap.size vb (.slice none 0 0) [] s (World.ownsRow_nil _ _ _ _) (by simp) (Nat.le_refl _) hv
  replace hr := Lib.hid hr
  replace hO := Lib.hid hO
  replace hB := Lib.hid hB
  go_enter Try.func44, Try.ntmps44
  go_wp2_with (at_builtin; refine wpList_append_rux _ w9 rfl _ _ 27 rfl _ _ _ rfl rfl hr.out ?_)
  go_ret
  exact ⟨_, rfl, hO.out, hB.out⟩
set_option maxRecDepth 100000 in
set_option maxHeartbeats 2000000 in
theorem insAff_any (g c base vb : Nat) (a s : Tx × Nat) (w : World) (hO0 : w.ownsRow base 25 2 (.slice (some ⟨g, 0, none⟩) 1 c) 1 (afC [a])) (hb : base ≤ w.heap.size) (hv : w.heap[vb]? = some (.cells #[.string ⟨s.1.toArray⟩, .int .u8 s.2] 25 (0, 0))) :
    Calls Try.prog 53 #[.slice (some ⟨g, 0, none⟩) 1 c, .int .i64 1, .slice (some ⟨vb, 0, none⟩) 1 1] w fun e w' => ∃ v', e = .returned v' ∧ w'.ownsRow base 25 2 v' 2 (afC [a, s]) ∧ Below base w w' ∧ w.grownBy w' (some g) := by
  obtain ⟨v9, w9, hr, hO, hB, hG⟩ := aff_push w base vb _ [a] s hO0 (by simp) hb hv
  have hc : 1 ≤ c := by
    rcases hO0.2 with ⟨h, -⟩ | ⟨g', cap, cur, h1, -, -, h4, -⟩
    · cases h
    · obtain ⟨-, -, rfl⟩ := Value.slice.inj h1; exact h4
  have hci : (1 : Int) ≤ (c : Int) := by omega
  replace hr := Lib.hid hr
  replace hO := Lib.hid hO
  replace hB := Lib.hid hB
  replace hG := Lib.hid hG
  clear hO0
  go_enter Try.func53, Try.ntmps53
  go_wp2_with (at_builtin; refine wpList_append_rux _ w9 rfl _ _ 26 rfl _ _ _ rfl rfl hr.out ?_)
  all_goals (go_ret; exact ⟨_, rfl, hO.out, hB.out, hG.out⟩)
end Go.Proofs.Ytoijpjmkjhoiaaa
