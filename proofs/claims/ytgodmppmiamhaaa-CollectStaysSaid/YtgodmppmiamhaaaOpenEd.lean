/-
  How the statements' edges are read: where they lie, and how long they are.
-/
import Derived.Test.YtgodmppmiamhaaaOpen
import Derived.Test.YtgodmppmiamhaaaWrTok
import Derived.Deep.SlicePairs
namespace Go.Proofs.Ytgodmppmiamhaaa
set_option linter.unusedVariables false
set_option linter.unusedSimpArgs false
open Go.ChangeShapes Go.WideShapes Go.ChangeAt Go.RowKit Go.Joins Go.Deep
set_option linter.unusedVariables false
/-- no text of these is longer than B, no slice takes more than B bytes -/
def AtsB (B : Nat) (al : Ats) : Prop := al.length * 32 ≤ B ∧ ∀ p ∈ al, p.1.length ≤ B ∧ p.2.length ≤ B
theorem cell_none {w : World} {a : Addr} {u : Value} (h : w.cell? a = some u) : a.spot = none ∧ a.block < w.heap.size := by
  obtain ⟨b, o, s⟩ := a
  cases s with
  | none =>
    refine ⟨rfl, ?_⟩
    rcases Nat.lt_or_ge b w.heap.size with h' | h'
    · exact h'
    · simp [World.cell?, Array.getElem?_eq_none h'] at h
  | some x =>
    simp only [World.cell?] at h
    split at h <;> cases h
section
variable {H : Type} {enc : TypeId × Value → H} {W : World} {base b0 : Nat} {spare : Nat → Bool} {held : Bool} {r : Reach}
theorem weightsAll_mem {P : Program} {e : TypeId} : ∀ {l : List (DataW H)} {d : DataW H}, d ∈ l → ∀ n ∈ d.weights P e, n ∈ DataW.weightsAll P e l
  | d0 :: l, d, hd, n, hn => by
    simp only [DataW.weightsAll, List.mem_append]
    rcases List.mem_cons.1 hd with rfl | hd
    · exact .inl hn
    · exact .inr (weightsAll_mem hd n hn)
theorem sA : Try.prog.underlying 23 = some (.slice 58) := by kernel_rfl
theorem strOf {fuel : Nat} {v : Value} {x : DataW H × List MemPlace} (h : DataW.trod enc Try.prog W base spare held fuel 9 [v] = some x) : ∃ s : List UInt8, v = .string ⟨s.toArray⟩ ∧ x.1 = .lit (.string s) := by
  obtain ⟨s, k0, rfl, -⟩ := DataW.trod_string Try.underlying9 h
  obtain ⟨l, rfl, -⟩ := byte_str s
  simp at k0
  exact ⟨l, k0, by simp⟩
theorem edgeF : ∃ f0 f1, Try.prog.underlying 58 = some (.struct #[f0, f1]) ∧ f0.offset = 0 ∧ f1.offset = 1 ∧ f0.type = 9 ∧ f1.type = 9 := ⟨_, _, Try.underlying58, rfl, rfl, rfl, rfl⟩
theorem cAt : Try.prog.cellsOf 58 = 2 := by kernel_rfl
theorem cSt : Try.prog.cellsOf 9 = 1 := by kernel_rfl
theorem bAt : Try.prog.bytesOf 58 = 32 := by kernel_rfl
set_option maxRecDepth 100000 in
theorem eds_of {fuel : Nat} {v : Value} {x : DataW H × List MemPlace} (h : DataW.trod enc Try.prog W base spare held fuel 23 [v] = some x) :
    ∃ al, AtS W v al ∧ ∀ B, (∀ n ∈ x.1.weights Try.prog 23, n ≤ B) → AtsB B al := by
  obtain ⟨f0, f1, hs, o0, o1, t0, t1⟩ := edgeF
  rcases open_slice_pairs sA hs cAt o0 o1 (by rw [t0]; exact cSt) (by rw [t1]; exact cSt) h with ⟨hv, rfl⟩ | ⟨a, len, cap, m, n, V0, V1, D0, D1, P0, P1, hv, hb, hl, hm, hmm, rfl, hx⟩
  · obtain rfl : v = .slice none 0 0 := by simpa using hv
    exact ⟨[], ⟨none, 0, rfl, Nat.le_refl _, Nat.zero_le _, fun h => absurd h (by simp)⟩, fun B _ => ⟨by simp, fun p hp => by cases hp⟩⟩
  · obtain rfl : v = .slice (some a) len cap := by simpa using hv
    have hlm : len ≤ m := by rw [hmm]; split <;> omega
    rw [t0, t1] at hx
    have each : ∀ i, i < len → ∃ q : List UInt8 × List UInt8, V0 i = .string ⟨q.1.toArray⟩ ∧ V1 i = .string ⟨q.2.toArray⟩ ∧ D0 i = .lit (.string q.1) ∧ D1 i = .lit (.string q.2) := fun i hi => by
      obtain ⟨_, _, g0, g1⟩ := hx i (by omega)
      obtain ⟨s0, e0, d0⟩ := strOf g0
      obtain ⟨s1, e1, d1⟩ := strOf g1
      exact ⟨(s0, s1), e0, e1, d0, d1⟩
    obtain ⟨q, hq⟩ := choose_lt each
    refine ⟨(List.range len).map q, ⟨some a, cap, by simp, by simpa using hl, hm, fun h0 => ?_⟩, fun B hB => ⟨?_, fun p hp => ?_⟩⟩
    · have h0' : 0 < len := by simpa using h0
      obtain ⟨c0, _⟩ := hx 0 (by omega)
      obtain ⟨hsp, hbl⟩ := cell_none c0
      obtain ⟨b, o, s⟩ := a
      simp [Addr.add] at hsp hbl
      subst hsp
      refine ⟨b, o, rfl, hbl, fun i hi => ?_⟩
      have hi' : i < len := by simpa using hi
      obtain ⟨c0, c1, _⟩ := hx i (by omega)
      obtain ⟨e0, e1, _⟩ := hq i hi'
      rw [Addr.add_lit] at c0 c1
      rw [← Nat.add_assoc] at c1
      rw [List.getElem_map, List.getElem_range, c0, c1, e0, e1]
      exact ⟨rfl, rfl⟩
    · have := hB ((((List.range len).map fun i => DataW.agg [D0 i, D1 i]).length + ((List.range (m - len)).map fun j => DataW.agg [D0 (len + j), D1 (len + j)]).length) * Try.prog.bytesOf 58) (by simp [DataW.weights, sA])
      rw [bAt] at this
      simp at this ⊢
      omega
    · obtain ⟨i, hi, rfl⟩ := List.mem_map.1 hp
      have hi' : i < len := List.mem_range.1 hi
      obtain ⟨_, _, d0, d1⟩ := hq i hi'
      have hw : ∀ n, n ∈ [(q i).1.length, (q i).2.length] → n ≤ B := fun n hn => by
        refine hB n ?_
        simp only [DataW.weights, sA]
        refine List.mem_cons_of_mem _ (List.mem_append_left _ (weightsAll_mem (d := .agg [D0 i, D1 i]) (List.mem_map.2 ⟨i, hi, rfl⟩) n ?_))
        rw [d0, d1]
        simp [DataW.weights, DataW.weightsEach, hs]
        simpa using hn
      exact ⟨hw _ (by simp), hw _ (by simp)⟩
set_option maxRecDepth 100000 in
theorem openEds {ts : List TypeId} {ds : List (DataW H)} {j : Nat} {v : Value} {d : DataW H} {p : List MemPlace} (hv : Value.okWide Try.prog W r b0 23 v) (h : DataW.Trod enc Try.prog W base spare held 23 v d p)
    (hsz : (DataW.weightsEach Try.prog ts ds).all (· ≤ reachBytes) = true) (ht : ts[j]? = some 23) (hd : ds[j]? = some d) : ∃ al, AtS W v al ∧ AtsB 140737488351232 al := by
  obtain ⟨a0, len, cap, rfl⟩ := okWide_slice sA hv
  obtain ⟨fuel, hf⟩ := h
  obtain ⟨al, h1, h2⟩ := eds_of (x := (d, p)) (by simpa [Value.cells] using hf)
  exact ⟨al, h1, h2 _ fun n hn => of_decide_eq_true (List.all_eq_true.1 hsz _ (DataW.weights_mem_each ht hd n hn))⟩
end
end Go.Proofs.Ytgodmppmiamhaaa
