/-
  Copies of own rows of affiliations and subscriptions (slices.Clone), by the program; taking out what is of an address (slices.DeleteFunc). Condition: at most two.
-/
import Derived.Test.YtoijpjmkjhoiaaaAsSetA
import Derived.Test.YtoijpjmkjhoiaaaAsSet1
namespace Go.Proofs.Ytoijpjmkjhoiaaa
set_option linter.unusedVariables false
set_option linter.unusedSimpArgs false
open Go.RowKit Go.MapKept Go.Shelf
theorem row_dup {P : Program} (W : World) (n0 : Nat) (t e : TypeId) (i : TypeInfo) (z : Value) (size bytes : Nat) (ht : P.underlying t = some (.slice e)) (hi : P.info? e = some i) (hz : i.zero = some z) (hsize : i.size = size) (hby : i.bytes = bytes) (hzs : z.cells.size = size) (hsz : 0 < size)
    (v : Value) (n : Nat) (xs : List Value) (h : W.ownsRow n0 e size v n xs) (hone : ∀ u ∈ xs, u.oneCell' = true) (hmx : n ≤ maxLen) (hb : n * bytes ≤ 140737488355328) :
    ∃ v' w', (Builtin.append_ #[t, t] t #[.slice (some ⟨W.heap.size, 0, none⟩) 0 0, v]).run P (W.alloc (.cells #[] e)) = .ok v' w' ∧ w'.ownsRow W.heap.size e size v' n xs ∧ Below W.heap.size W w' := by
  have hO : (W.alloc (.cells #[] e)).ownsRow W.heap.size e size (.slice (some ⟨W.heap.size, 0, none⟩) 0 0) 0 [] := ⟨by simp, .inr ⟨W.heap.size, 0, #[], rfl, Nat.le_refl _, bare_nd _ _, Nat.le_refl _, by decide, by simp, by simp⟩⟩
  rcases h.2 with ⟨rfl, rfl⟩ | ⟨g, cap, cur, rfl, hbg, hg, hc1, hc2, hc3, hc4⟩
  · have hx : xs = [] := by have := h.1; rw [Nat.zero_mul] at this; exact List.length_eq_zero_iff.1 this
    subst hx
    exact ⟨_, _, nothing_srx (P := P) (W.alloc (.cells #[] e)) t t e i ht hi (some ⟨W.heap.size, 0, none⟩) 0 0 0 (Nat.le_refl _), hO, below1 _ _⟩
  · have hgl := (Array.getElem?_eq_some_iff.1 hg).1
    have hnews : ∀ j u, xs[j]? = some u → (W.alloc (.cells #[] e)).cell? ((⟨g, 0, none⟩ : Addr).add j) = some u := fun j u hj => by
      have := World.ownsRow.cells (h.alloc (.cells #[] e)) (g := g) rfl j u hj
      exact this
    obtain ⟨v', w', hrun, hown, hgr, _, _⟩ := run_append_own_at (P := P) (W.alloc (.cells #[] e)) W.heap.size t t e i z size bytes ht hi hz hsize hby hzs hsz _ _ _ hO ⟨g, 0, none⟩ n cap xs h.1 hnews hone (by omega) (by rw [Nat.zero_add]; exact hb) (by simp)
    rw [Nat.zero_add, List.nil_append] at hown
    exact ⟨v', w', hrun, hown, (below1 W _).grown hgr (by simp) (fun k hk => by cases hk; exact Nat.le_refl _)⟩
theorem owns_sus {w : World} {base : Nat} {v : Value} {l : List (Tx × Bool × Int)} (h : w.ownsRow base 46 3 v l.length (suC l)) : SuS w v l := by
  rcases h.2 with ⟨rfl, h0⟩ | ⟨g, cap, cur, rfl, hb, hg, h1, h2, h3, h4⟩
  · exact ⟨none, 0, by rw [h0], by omega, by decide, fun h => absurd h (by omega)⟩
  · refine ⟨some ⟨g, 0, none⟩, cap, rfl, h1, h2, fun h0 => ⟨g, 0, rfl, (Array.getElem?_eq_some_iff.1 hg).1, fun i hi => ?_⟩⟩
    have hc := World.ownsRow.cells h (g := g) rfl
    obtain ⟨q0, q1, q2⟩ := suC_get l i hi
    have c0 := hc _ _ q0
    have c1 := hc _ _ q1
    have c2 := hc _ _ q2
    rw [Addr.add_lit] at c0 c1 c2
    refine ⟨c0, ?_, ?_⟩
    · rw [Nat.add_assoc]; exact c1
    · rw [Nat.add_assoc]; exact c2
theorem owns_afs {w : World} {base : Nat} {v : Value} {l : List (Tx × Nat)} (h : w.ownsRow base 25 2 v l.length (afC l)) : AfS w v l := by
  rcases h.2 with ⟨rfl, h0⟩ | ⟨g, cap, cur, rfl, hb, hg, h1, h2, h3, h4⟩
  · exact ⟨none, 0, by rw [h0], by omega, by decide, fun h => absurd h (by omega)⟩
  · refine ⟨some ⟨g, 0, none⟩, cap, rfl, h1, h2, fun h0 => ⟨g, 0, rfl, (Array.getElem?_eq_some_iff.1 hg).1, fun i hi => ?_⟩⟩
    have hc := World.ownsRow.cells h (g := g) rfl
    obtain ⟨q0, q1⟩ := afC_get l i hi
    have c0 := hc _ _ q0
    have c1 := hc _ _ q1
    rw [Addr.add_lit] at c0 c1
    exact ⟨c0, by rw [Nat.add_assoc]; exact c1⟩
set_option maxHeartbeats 2000000 in
theorem cloneSubO_any (v : Value) (l : List (Tx × Bool × Int)) (base : Nat) (w : World) (hS : w.ownsRow base 46 3 v l.length (suC l)) (hl : l.length ≤ 2) :
    Calls Try.prog 39 #[v] w fun e w' => ∃ v', e = .returned v' ∧ w'.ownsRow w.heap.size 46 3 v' l.length (suC l) ∧ Below w.heap.size w w' ∧ (v = .slice none 0 0 → v' = .slice none 0 0) := by
  obtain ⟨i0, hi, hz0, hz1, hz2⟩ := infoSu
  obtain ⟨va, wa, hra, hOa, hBa⟩ := row_dup (P := Try.prog) w base 27 46 i0 _ 3 32 Try.underlying27 hi hz0 hz1 hz2 rfl (by decide) _ _ _ hS (suC_one l) (by unfold maxLen; omega) (by omega)
  rcases hS.2 with ⟨rfl, h0⟩ | ⟨g, cap, cur, rfl, -⟩
  · have hl0 : l = [] := List.length_eq_zero_iff.1 h0
    subst hl0
    clear hra hOa hBa
    have hn := nilSu
    go_enter Try.func39, Try.ntmps39
    go_wp2
    go_ret
    exact ⟨_, rfl, World.ownsRow_nil _ _ _ _, Below.refl _ _, fun _ => rfl⟩
  · have hn := someSu
    replace hra := Lib.hid hra
    replace hOa := Lib.hid hOa
    replace hBa := Lib.hid hBa
    clear hS
    generalize l.length = N at *
    go_enter Try.func39, Try.ntmps39
    go_wp2_with (at_builtin; refine wpList_append_rux _ wa rfl _ _ 27 rfl _ _ _ rfl rfl hra.out ?_)
    go_ret
    exact ⟨_, rfl, hOa.out, hBa.out, fun h => by cases h⟩
set_option maxHeartbeats 2000000 in
theorem cloneAffO_any (v : Value) (l : List (Tx × Nat)) (base : Nat) (w : World) (hS : w.ownsRow base 25 2 v l.length (afC l)) (hl : l.length ≤ 2) :
    Calls Try.prog 38 #[v] w fun e w' => ∃ v', e = .returned v' ∧ w'.ownsRow w.heap.size 25 2 v' l.length (afC l) ∧ Below w.heap.size w w' := by
  obtain ⟨i0, hi, hz0, hz1, hz2⟩ := infoAff
  obtain ⟨va, wa, hra, hOa, hBa⟩ := row_dup (P := Try.prog) w base 26 25 i0 _ 2 24 Try.underlying26 hi hz0 hz1 hz2 rfl (by decide) _ _ _ hS (afC_one l) (by unfold maxLen; omega) (by omega)
  rcases hS.2 with ⟨rfl, h0⟩ | ⟨g, cap, cur, rfl, -⟩
  · have hl0 : l = [] := List.length_eq_zero_iff.1 h0
    subst hl0
    clear hra hOa hBa
    have hn := nilAf
    go_enter Try.func38, Try.ntmps38
    go_wp2
    go_ret
    exact ⟨_, rfl, World.ownsRow_nil _ _ _ _, Below.refl _ _⟩
  · have hn := someAf
    replace hra := Lib.hid hra
    replace hOa := Lib.hid hOa
    replace hBa := Lib.hid hBa
    clear hS
    generalize l.length = N at *
    go_enter Try.func38, Try.ntmps38
    go_wp2_with (at_builtin; refine wpList_append_rux _ wa rfl _ _ 26 rfl _ _ _ rfl rfl hra.out ?_)
    go_ret
    exact ⟨_, rfl, hOa.out, hBa.out⟩
theorem run_clear3 {P : Program} (w : World) (t e ty : TypeId) (ht : P.underlying t = some (.slice e)) (hv : ∀ w, (zeroValue e).run P w = .ok (.agg #[.string ⟨#[]⟩, .bool false, .int .i64 0]) w) (b o c : Nat)
    (hc : ∀ j, j < 3 → (w.cell? ⟨b, o + j, none⟩).isSome = true) (hf : ∀ j, j < 3 → w.frozen? ⟨b, o + j, none⟩ = false) :
    (Builtin.clear_ #[t] ty #[.slice (some ⟨b, o, none⟩) 1 c]).run P w = .ok (.tuple #[]) (w.setCells b o [.string ⟨#[]⟩, .bool false, .int .i64 0]) := by
  have hst := run_storeCells_cells (P := P) b o [.string ⟨#[]⟩, .bool false, .int .i64 0] 0 w (by simpa using hc) (by simpa using hf) (by intro v hv'; simp at hv'; rcases hv' with rfl | rfl | rfl <;> rfl)
  simp only [Nat.add_zero] at hst
  have hzc : (Builtin.zeroCells (Value.agg #[.string ⟨#[]⟩, .bool false, .int .i64 0]).cells 1).toList = [.string ⟨#[]⟩, .bool false, .int .i64 0] := by kernel_rfl
  simp [Builtin.clear_, run_underlying ht, hv, hzc, hst]
theorem zeroSu (w : World) : (zeroValue 46).run Try.prog w = .ok (.agg #[.string ⟨#[]⟩, .bool false, .int .i64 0]) w := by kernel_rfl
end Go.Proofs.Ytoijpjmkjhoiaaa
