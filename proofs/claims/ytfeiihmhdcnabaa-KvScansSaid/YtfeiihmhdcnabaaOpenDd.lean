/-
  How the statements' deeds are read: where they lie, and how long their texts are.
-/
import Derived.Test.YtfeiihmhdcnabaaOpen
import Derived.Test.YtfeiihmhdcnabaaKvPlay
import Derived.Deep.SlicePairs
import Derived.Deep.Strs
namespace Go.Proofs.Ytfeiihmhdcnabaa
set_option linter.unusedVariables false
set_option linter.unusedSimpArgs false
open Go.ChangeShapes Go.WideShapes Go.ChangeAt Go.RowKit Go.Joins Go.Deep
set_option linter.unusedVariables false
theorem list3 {α : Type} {l : List α} (h : l.length = 3) : ∃ a b c, l = [a, b, c] := by
  match l, h with
  | [a, b, c], _ => exact ⟨a, b, c, rfl⟩
theorem cell_none {w : World} {a : Addr} {u : Value} (h : w.cell? a = some u) : a.spot = none ∧ a.block < w.heap.size := by
  obtain ⟨b, o, s⟩ := a
  cases s with
  | none =>
    refine ⟨rfl, ?_⟩
    rcases Nat.lt_or_ge b w.heap.size with h' | h'
    · exact h'
    · simp [World.cell?, Array.getElem?_eq_none h'] at h
  | some x =>
    simp only [World.cell?] at h
    split at h <;> cases h
section
variable {H : Type} {enc : TypeId × Value → H} {W : World} {base b0 : Nat} {spare : Nat → Bool} {held : Bool} {r : Reach}
theorem weightsAll_mem {P : Program} {e : TypeId} : ∀ {l : List (DataW H)} {d : DataW H}, d ∈ l → ∀ n ∈ d.weights P e, n ∈ DataW.weightsAll P e l
  | d0 :: l, d, hd, n, hn => by
    simp only [DataW.weightsAll, List.mem_append]
    rcases List.mem_cons.1 hd with rfl | hd
    · exact .inl hn
    · exact .inr (weightsAll_mem hd n hn)
theorem sD : Try.prog.underlying 30 = some (.slice 53) := by kernel_rfl
theorem strOf {fuel : Nat} {v : Value} {x : DataW H × List MemPlace} (h : DataW.trod enc Try.prog W base spare held fuel 9 [v] = some x) : ∃ s : List UInt8, v = .string ⟨s.toArray⟩ ∧ x.1 = .lit (.string s) := by
  obtain ⟨s, k0, rfl, -⟩ := DataW.trod_string Try.underlying9 h
  obtain ⟨l, rfl, -⟩ := byte_str s
  simp at k0
  exact ⟨l, k0, by simp⟩
theorem deedF : ∃ f0 f1 f2, Try.prog.underlying 53 = some (.struct #[f0, f1, f2]) ∧ f0.offset = 0 ∧ f1.offset = 1 ∧ f2.offset = 2 ∧ Try.prog.underlying f0.type = some (.int .i64) ∧ Try.prog.cellsOf f0.type = 1 ∧ f1.type = 9 ∧ f2.type = 9 := ⟨_, _, _, Try.underlying53, rfl, rfl, rfl, by kernel_rfl, by kernel_rfl, rfl, rfl⟩
theorem cDd : Try.prog.cellsOf 53 = 3 := by kernel_rfl
theorem cSt : Try.prog.cellsOf 9 = 1 := by kernel_rfl
set_option maxRecDepth 100000 in
theorem dds_of {fuel : Nat} {v : Value} {x : DataW H × List MemPlace} (h : DataW.trod enc Try.prog W base spare held fuel 30 [v] = some x) :
    ∃ l, DdS W v l ∧ ∀ B, (∀ n ∈ x.1.weights Try.prog 30, n ≤ B) → ∀ d ∈ l, d.c.length ≤ B ∧ d.v.length ≤ B := by
  obtain ⟨f0, f1, f2, hs, o0, o1, o2, u0, k0, t1, t2⟩ := deedF
  rcases open_slice sD h with ⟨hv, rfl⟩ | ⟨a, len, cap, m, n, D, Pl, hv, hb, hl, hm, hmm, rfl, hx⟩
  · obtain rfl : v = .slice none 0 0 := by simpa using hv
    exact ⟨[], ⟨none, 0, rfl, Nat.le_refl _, Nat.zero_le _, fun h => absurd h (by simp)⟩, fun B _ p hp => by cases hp⟩
  · obtain rfl : v = .slice (some a) len cap := by simpa using hv
    have hlm : len ≤ m := by rw [hmm]; split <;> omega
    have each : ∀ i, i < len → ∃ q : Dd, W.cell? (a.add (i * 3)) = some (.int .i64 q.k) ∧ W.cell? (a.add (i * 3 + 1)) = some (.string ⟨q.c.toArray⟩) ∧ W.cell? (a.add (i * 3 + 2)) = some (.string ⟨q.v.toArray⟩) ∧
        ∀ B, (∀ n ∈ (D i).weights Try.prog 53, n ≤ B) → q.c.length ≤ B ∧ q.v.length ≤ B := fun i hi => by
      obtain ⟨cs', h1, h2⟩ := hx i (by omega)
      rw [cDd] at h1
      obtain ⟨_, hlen, hcell⟩ := World.cells?_some h1
      obtain ⟨y0, y1, y2, k, hxy, _, g0, g1, g2⟩ := trod_struct3 hs h2
      obtain ⟨c0, c1, c2, rfl⟩ := list3 hlen
      rw [t1] at g1
      rw [t2] at g2
      simp [o0, k0] at g0
      simp [o1, cSt] at g1
      simp [o2, cSt] at g2
      obtain ⟨z, ez, _, _⟩ := DataW.trod_int u0 g0
      obtain rfl : c0 = .int .i64 z := by simpa using ez
      obtain ⟨s1, rfl, d1⟩ := strOf g1
      obtain ⟨s2, rfl, d2⟩ := strOf g2
      have e0 := hcell 0 (by omega)
      have e1 := hcell 1 (by omega)
      have e2 := hcell 2 (by omega)
      rw [add_add] at e0 e1 e2
      refine ⟨⟨z, s1, s2⟩, by simpa using e0, by simpa using e1, by simpa using e2, fun B hw => ?_⟩
      simp only [Prod.mk.injEq] at hxy
      rw [hxy.1, d1, d2] at hw
      have hw' : ∀ n, n ∈ [s1.length, s2.length] → n ≤ B := fun n hn => by
        refine hw n ?_
        simp only [DataW.weights, hs]
        simp only [List.map_cons, List.map_nil, DataW.weightsEach, DataW.weights, t1, t2, List.append_nil]
        simpa using .inr (by simpa using hn)
      exact ⟨hw' _ (by simp), hw' _ (by simp)⟩
    obtain ⟨q, hq⟩ := choose_lt each
    refine ⟨(List.range len).map q, ⟨some a, cap, by simp, by simpa using hl, hm, fun h0 => ?_⟩, fun B hB p hp => ?_⟩
    · have h0' : 0 < len := by simpa using h0
      obtain ⟨c0, _⟩ := hq 0 h0'
      obtain ⟨hsp, hbl⟩ := cell_none c0
      obtain ⟨b, o, s⟩ := a
      simp [Addr.add] at hsp hbl
      subst hsp
      refine ⟨b, o, rfl, hbl, fun i hi => ?_⟩
      have hi' : i < len := by simpa using hi
      obtain ⟨c0, c1, c2, _⟩ := hq i hi'
      rw [Addr.add_lit] at c0 c1 c2
      rw [← Nat.add_assoc] at c1 c2
      rw [List.getElem_map, List.getElem_range]
      exact ⟨c0, c1, c2⟩
    · obtain ⟨i, hi, rfl⟩ := List.mem_map.1 hp
      have hi' : i < len := List.mem_range.1 hi
      refine (hq i hi').2.2.2 B (fun n hn => hB n ?_)
      simp only [DataW.weights, sD]
      exact List.mem_cons_of_mem _ (List.mem_append_left _ (weightsAll_mem (List.mem_map.2 ⟨i, hi, rfl⟩) n hn))
set_option maxRecDepth 100000 in
theorem openDds {ts : List TypeId} {ds : List (DataW H)} {j : Nat} {v : Value} {d : DataW H} {p : List MemPlace} (hv : Value.okWide Try.prog W r b0 30 v) (h : DataW.Trod enc Try.prog W base spare held 30 v d p)
    (hsz : (DataW.weightsEach Try.prog ts ds).all (· ≤ reachBytes) = true) (ht : ts[j]? = some 30) (hd : ds[j]? = some d) : ∃ l, DdS W v l ∧ DdB l := by
  obtain ⟨a0, len, cap, rfl⟩ := okWide_slice sD hv
  obtain ⟨fuel, hf⟩ := h
  obtain ⟨al, h1, h2⟩ := dds_of (x := (d, p)) (by simpa [Value.cells] using hf)
  exact ⟨al, h1, h2 _ fun n hn => of_decide_eq_true (List.all_eq_true.1 hsz _ (DataW.weights_mem_each ht hd n hn))⟩
set_option maxRecDepth 100000 in
/-- one deed -/
theorem openDd {v : Value} {d : DataW H} {p : List MemPlace} (hv : Value.okWide Try.prog W r b0 53 v) (h : DataW.Trod enc Try.prog W base spare held 53 v d p) :
    ∃ x : Dd, v = .agg #[.int .i64 x.k, .string ⟨x.c.toArray⟩, .string ⟨x.v.toArray⟩] := by
  obtain ⟨f0, f1, f2, hs, o0, o1, o2, u0, k0, t1, t2⟩ := deedF
  have hone : oneCellFields Try.prog #[f0, f1, f2] = true := by
    simp only [oneCellFields, List.all_eq_true]
    intro i hi
    have hi' : i < 3 := by simpa using hi
    match i, hi' with
    | 0, _ => simp [o0, k0]
    | 1, _ => simp [o1, t1, cSt]
    | 2, _ => simp [o2, t2, cSt]
  obtain ⟨c0, c1, c2, y0, y1, y2, n, rfl, rfl, -, h0, h1, h2⟩ := open_agg3 hs hone cDd hv h
  rw [t1] at h1
  rw [t2] at h2
  obtain ⟨z, ez, _, _⟩ := DataW.trod_int u0 h0
  obtain rfl : c0 = .int .i64 z := by simpa using ez
  obtain ⟨x, rfl, -⟩ := strOf h1
  obtain ⟨y, rfl, -⟩ := strOf h2
  exact ⟨⟨z, x, y⟩, rfl⟩
end
end Go.Proofs.Ytfeiihmhdcnabaa
