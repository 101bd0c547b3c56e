/-
  How the statements' tokens and attributes are read: where they lie, and how long they are.
-/
import Derived.Test.YtjpdadibeocpfaaDoorOpen
import Derived.Test.YtjpdadibeocpfaaDoorWrTok
import Derived.Deep.SlicePairs
namespace Go.Proofs.YtjpdadibeocpfaaDoor
set_option linter.unusedVariables false
set_option linter.unusedSimpArgs false
open Go.ChangeShapes Go.WideShapes Go.ChangeAt Go.RowKit Go.Joins Go.Deep
set_option linter.unusedVariables false
/-- no text of these is longer than B, no slice takes more than B bytes -/
def AtsB (B : Nat) (al : Ats) : Prop := al.length * 32 ≤ B ∧ ∀ p ∈ al, p.1.length ≤ B ∧ p.2.length ≤ B
def TksB (B : Nat) (l : List Tk) : Prop := l.length * 64 ≤ B ∧ ∀ tk ∈ l, tk.n.length ≤ B ∧ tk.t.length ≤ B ∧ AtsB B tk.as
theorem list4 {α : Type} {l : List α} (h : l.length = 4) : ∃ a b c d, l = [a, b, c, d] := by
  match l, h with
  | [a, b, c, d], _ => exact ⟨a, b, c, d, rfl⟩
theorem cell_none {w : World} {a : Addr} {u : Value} (h : w.cell? a = some u) : a.spot = none ∧ a.block < w.heap.size := by
  obtain ⟨b, o, s⟩ := a
  cases s with
  | none =>
    refine ⟨rfl, ?_⟩
    rcases Nat.lt_or_ge b w.heap.size with h' | h'
    · exact h'
    · simp [World.cell?, Array.getElem?_eq_none h'] at h
  | some x =>
    simp only [World.cell?] at h
    split at h <;> cases h
section
variable {H : Type} {enc : TypeId × Value → H} {W : World} {base b0 : Nat} {spare : Nat → Bool} {held : Bool} {r : Reach}
theorem weightsAll_mem {P : Program} {e : TypeId} : ∀ {l : List (DataW H)} {d : DataW H}, d ∈ l → ∀ n ∈ d.weights P e, n ∈ DataW.weightsAll P e l
  | d0 :: l, d, hd, n, hn => by
    simp only [DataW.weightsAll, List.mem_append]
    rcases List.mem_cons.1 hd with rfl | hd
    · exact .inl hn
    · exact .inr (weightsAll_mem hd n hn)
theorem sA : Tryd.prog.underlying 33 = some (.slice 39) := by kernel_rfl
theorem sT : Tryd.prog.underlying 25 = some (.slice 35) := by kernel_rfl
theorem strOf {fuel : Nat} {v : Value} {x : DataW H × List MemPlace} (h : DataW.trod enc Tryd.prog W base spare held fuel 9 [v] = some x) : ∃ s : List UInt8, v = .string ⟨s.toArray⟩ ∧ x.1 = .lit (.string s) := by
  obtain ⟨s, k0, rfl, -⟩ := DataW.trod_string Tryd.underlying9 h
  obtain ⟨l, rfl, -⟩ := byte_str s
  simp at k0
  exact ⟨l, k0, by simp⟩
theorem attrF : ∃ f0 f1, Tryd.prog.underlying 39 = some (.struct #[f0, f1]) ∧ f0.offset = 0 ∧ f1.offset = 1 ∧ f0.type = 9 ∧ f1.type = 9 := ⟨_, _, Tryd.underlying39, rfl, rfl, rfl, rfl⟩
theorem tokF : ∃ f0 f1 f2 f3, Tryd.prog.underlying 35 = some (.struct #[f0, f1, f2, f3]) ∧ f0.offset = 0 ∧ f1.offset = 1 ∧ f2.offset = 2 ∧ f3.offset = 3 ∧ Tryd.prog.underlying f0.type = some (.int .u8) ∧ Tryd.prog.cellsOf f0.type = 1 ∧ f1.type = 9 ∧ f2.type = 33 ∧ f3.type = 9 := ⟨_, _, _, _, Tryd.underlying35, rfl, rfl, rfl, rfl, by kernel_rfl, by kernel_rfl, rfl, rfl, rfl⟩
theorem cAt : Tryd.prog.cellsOf 39 = 2 := by kernel_rfl
theorem cTk : Tryd.prog.cellsOf 35 = 4 := by kernel_rfl
theorem cSt : Tryd.prog.cellsOf 9 = 1 := by kernel_rfl
theorem cSA : Tryd.prog.cellsOf 33 = 1 := by kernel_rfl
theorem bAt : Tryd.prog.bytesOf 39 = 32 := by kernel_rfl
theorem bTk : Tryd.prog.bytesOf 35 = 64 := by kernel_rfl
theorem ats_of {fuel : Nat} {v : Value} {x : DataW H × List MemPlace} (h : DataW.trod enc Tryd.prog W base spare held fuel 33 [v] = some x) :
    ∃ al, AtS W v al ∧ ∀ B, (∀ n ∈ x.1.weights Tryd.prog 33, n ≤ B) → AtsB B al := by
  obtain ⟨f0, f1, hs, o0, o1, t0, t1⟩ := attrF
  rcases open_slice_pairs sA hs cAt o0 o1 (by rw [t0]; exact cSt) (by rw [t1]; exact cSt) h with ⟨hv, rfl⟩ | ⟨a, len, cap, m, n, V0, V1, D0, D1, P0, P1, hv, hb, hl, hm, hmm, rfl, hx⟩
  · obtain rfl : v = .slice none 0 0 := by simpa using hv
    exact ⟨[], ⟨none, 0, rfl, Nat.le_refl _, Nat.zero_le _, fun h => absurd h (by simp)⟩, fun B _ => ⟨by simp, fun p hp => by cases hp⟩⟩
  · obtain rfl : v = .slice (some a) len cap := by simpa using hv
    have hlm : len ≤ m := by rw [hmm]; split <;> omega
    rw [t0, t1] at hx
    have each : ∀ i, i < len → ∃ q : List UInt8 × List UInt8, V0 i = .string ⟨q.1.toArray⟩ ∧ V1 i = .string ⟨q.2.toArray⟩ ∧ D0 i = .lit (.string q.1) ∧ D1 i = .lit (.string q.2) := fun i hi => by
      obtain ⟨_, _, g0, g1⟩ := hx i (by omega)
      obtain ⟨s0, e0, d0⟩ := strOf g0
      obtain ⟨s1, e1, d1⟩ := strOf g1
      exact ⟨(s0, s1), e0, e1, d0, d1⟩
    obtain ⟨q, hq⟩ := choose_lt each
    refine ⟨(List.range len).map q, ⟨some a, cap, by simp, by simpa using hl, hm, fun h0 => ?_⟩, fun B hB => ⟨?_, fun p hp => ?_⟩⟩
    · have h0' : 0 < len := by simpa using h0
      obtain ⟨c0, _⟩ := hx 0 (by omega)
      obtain ⟨hsp, hbl⟩ := cell_none c0
      obtain ⟨b, o, s⟩ := a
      simp [Addr.add] at hsp hbl
      subst hsp
      refine ⟨b, o, rfl, hbl, fun i hi => ?_⟩
      have hi' : i < len := by simpa using hi
      obtain ⟨c0, c1, _⟩ := hx i (by omega)
      obtain ⟨e0, e1, _⟩ := hq i hi'
      rw [Addr.add_lit] at c0 c1
      rw [← Nat.add_assoc] at c1
      rw [List.getElem_map, List.getElem_range, c0, c1, e0, e1]
      exact ⟨rfl, rfl⟩
    · have := hB ((((List.range len).map fun i => DataW.agg [D0 i, D1 i]).length + ((List.range (m - len)).map fun j => DataW.agg [D0 (len + j), D1 (len + j)]).length) * Tryd.prog.bytesOf 39) (by simp [DataW.weights, sA])
      rw [bAt] at this
      simp at this ⊢
      omega
    · obtain ⟨i, hi, rfl⟩ := List.mem_map.1 hp
      have hi' : i < len := List.mem_range.1 hi
      obtain ⟨_, _, d0, d1⟩ := hq i hi'
      have hw : ∀ n, n ∈ [(q i).1.length, (q i).2.length] → n ≤ B := fun n hn => by
        refine hB n ?_
        simp only [DataW.weights, sA]
        refine List.mem_cons_of_mem _ (List.mem_append_left _ (weightsAll_mem (d := .agg [D0 i, D1 i]) (List.mem_map.2 ⟨i, hi, rfl⟩) n ?_))
        rw [d0, d1]
        simp [DataW.weights, DataW.weightsEach, hs]
        simpa using hn
      exact ⟨hw _ (by simp), hw _ (by simp)⟩
instance : Inhabited Tk := ⟨⟨0, [], [], []⟩⟩
theorem tks_of {fuel : Nat} {v : Value} {x : DataW H × List MemPlace} (h : DataW.trod enc Tryd.prog W base spare held fuel 25 [v] = some x) :
    ∃ l, TkS W v l ∧ ∀ B, (∀ n ∈ x.1.weights Tryd.prog 25, n ≤ B) → TksB B l := by
  obtain ⟨f0, f1, f2, f3, hs, o0, o1, o2, o3, u0, k0, t1, t2, t3⟩ := tokF
  rcases open_slice sT h with ⟨hv, rfl⟩ | ⟨a, len, cap, m, n, D, Pl, hv, hb, hl, hm, hmm, rfl, hx⟩
  · obtain rfl : v = .slice none 0 0 := by simpa using hv
    exact ⟨[], ⟨none, 0, rfl, Nat.le_refl _, Nat.zero_le _, fun h => absurd h (by simp)⟩, fun B _ => ⟨by simp, fun p hp => by cases hp⟩⟩
  · obtain rfl : v = .slice (some a) len cap := by simpa using hv
    have hlm : len ≤ m := by rw [hmm]; split <;> omega
    have each : ∀ i, i < len → ∃ q : Tk × Value, W.cell? (a.add (i * 4)) = some (.int .u8 q.1.k) ∧ W.cell? (a.add (i * 4 + 1)) = some (.string ⟨q.1.n.toArray⟩) ∧ W.cell? (a.add (i * 4 + 2)) = some q.2 ∧ W.cell? (a.add (i * 4 + 3)) = some (.string ⟨q.1.t.toArray⟩) ∧ AtS W q.2 q.1.as ∧
        ∀ B, (∀ n ∈ (D i).weights Tryd.prog 35, n ≤ B) → q.1.n.length ≤ B ∧ q.1.t.length ≤ B ∧ AtsB B q.1.as := fun i hi => by
      obtain ⟨cs', h1, h2⟩ := hx i (by omega)
      rw [cTk] at h1
      obtain ⟨_, hlen, hcell⟩ := World.cells?_some h1
      obtain ⟨y0, y1, y2, y3, k, hxy, _, g0, g1, g2, g3⟩ := trod_struct4 hs h2
      obtain ⟨c0, c1, c2, c3, rfl⟩ := list4 hlen
      rw [t1] at g1
      rw [t2] at g2
      rw [t3] at g3
      simp [o0, k0] at g0
      simp [o1, cSt] at g1
      simp [o2, cSA] at g2
      simp [o3, cSt] at g3
      obtain ⟨z, ez, _, _⟩ := DataW.trod_int u0 g0
      obtain rfl : c0 = .int .u8 z := by simpa using ez
      obtain ⟨s1, rfl, d1⟩ := strOf g1
      obtain ⟨al, hat, hB⟩ := ats_of g2
      obtain ⟨s3, rfl, d3⟩ := strOf g3
      have e0 := hcell 0 (by omega)
      have e1 := hcell 1 (by omega)
      have e2 := hcell 2 (by omega)
      have e3 := hcell 3 (by omega)
      rw [add_add] at e0 e1 e2 e3
      refine ⟨(⟨z, s1, al, s3⟩, c2), by simpa using e0, by simpa using e1, by simpa using e2, by simpa using e3, hat, fun B hw => ?_⟩
      simp only [Prod.mk.injEq] at hxy
      rw [hxy.1, d1, d3] at hw
      have hw' : ∀ n, n ∈ s1.length :: (y2.1.weights Tryd.prog 33 ++ [s3.length]) → n ≤ B := fun n hn => by
        refine hw n ?_
        simp only [DataW.weights, hs]
        simp only [List.map_cons, List.map_nil, DataW.weightsEach, DataW.weights, t1, t2, t3, List.append_nil]
        simpa using .inr (by simpa using hn)
      exact ⟨hw' _ (by simp), hw' _ (by simp), hB B (fun n hn => hw' n (by simp [hn]))⟩
    obtain ⟨q, hq⟩ := choose_lt each
    refine ⟨(List.range len).map fun i => (q i).1, ⟨some a, cap, by simp, by simpa using hl, hm, fun h0 => ?_⟩, fun B hB => ⟨?_, fun p hp => ?_⟩⟩
    · have h0' : 0 < len := by simpa using h0
      obtain ⟨c0, _⟩ := hq 0 h0'
      obtain ⟨hsp, hbl⟩ := cell_none c0
      obtain ⟨b, o, s⟩ := a
      simp [Addr.add] at hsp hbl
      subst hsp
      refine ⟨b, o, rfl, hbl, fun i hi => ?_⟩
      have hi' : i < len := by simpa using hi
      obtain ⟨c0, c1, c2, c3, c4, _⟩ := hq i hi'
      rw [Addr.add_lit] at c0 c1 c2 c3
      rw [← Nat.add_assoc] at c1 c2 c3
      rw [List.getElem_map, List.getElem_range]
      exact ⟨(q i).2, c0, c1, c2, c3, c4⟩
    · have := hB ((((List.range len).map D).length + ((List.range (m - len)).map fun j => D (len + j)).length) * Tryd.prog.bytesOf 35) (by simp [DataW.weights, sT])
      rw [bTk] at this
      simp at this ⊢
      omega
    · obtain ⟨i, hi, rfl⟩ := List.mem_map.1 hp
      have hi' : i < len := List.mem_range.1 hi
      refine (hq i hi').2.2.2.2.2 B (fun n hn => hB n ?_)
      simp only [DataW.weights, sT]
      exact List.mem_cons_of_mem _ (List.mem_append_left _ (weightsAll_mem (List.mem_map.2 ⟨i, hi, rfl⟩) n hn))
set_option maxRecDepth 100000 in
/-- the three kinds of arguments -/
theorem openAttr {v : Value} {d : DataW H} {p : List MemPlace} (hv : Value.okWide Tryd.prog W r b0 39 v) (h : DataW.Trod enc Tryd.prog W base spare held 39 v d p) :
    ∃ x y : List UInt8, v = .agg #[.string ⟨x.toArray⟩, .string ⟨y.toArray⟩] := by
  obtain ⟨f0, f1, hs, o0, o1, t0, t1⟩ := attrF
  have hone : oneCellFields Tryd.prog #[f0, f1] = true := by
    simp only [oneCellFields, List.all_eq_true]
    intro i hi
    have hi' : i < 2 := by simpa using hi
    match i, hi' with
    | 0, _ => simp [o0, t0, cSt]
    | 1, _ => simp [o1, t1, cSt]
  obtain ⟨c0, c1, y0, y1, n, rfl, rfl, -, h0, h1⟩ := open_agg2 hs hone cAt hv h
  rw [t0] at h0
  rw [t1] at h1
  obtain ⟨x, rfl, -⟩ := strOf h0
  obtain ⟨y, rfl, -⟩ := strOf h1
  exact ⟨x, y, rfl⟩
set_option maxRecDepth 100000 in
theorem openAts {ts : List TypeId} {ds : List (DataW H)} {j : Nat} {v : Value} {d : DataW H} {p : List MemPlace} (hv : Value.okWide Tryd.prog W r b0 33 v) (h : DataW.Trod enc Tryd.prog W base spare held 33 v d p)
    (hsz : (DataW.weightsEach Tryd.prog ts ds).all (· ≤ reachBytes) = true) (ht : ts[j]? = some 33) (hd : ds[j]? = some d) : ∃ al, AtS W v al ∧ AtsB 140737488351232 al := by
  obtain ⟨a0, len, cap, rfl⟩ := okWide_slice sA hv
  obtain ⟨fuel, hf⟩ := h
  obtain ⟨al, h1, h2⟩ := ats_of (x := (d, p)) (by simpa [Value.cells] using hf)
  exact ⟨al, h1, h2 _ fun n hn => of_decide_eq_true (List.all_eq_true.1 hsz _ (DataW.weights_mem_each ht hd n hn))⟩
set_option maxRecDepth 100000 in
theorem openTks {ts : List TypeId} {ds : List (DataW H)} {j : Nat} {v : Value} {d : DataW H} {p : List MemPlace} (hv : Value.okWide Tryd.prog W r b0 25 v) (h : DataW.Trod enc Tryd.prog W base spare held 25 v d p)
    (hsz : (DataW.weightsEach Tryd.prog ts ds).all (· ≤ reachBytes) = true) (ht : ts[j]? = some 25) (hd : ds[j]? = some d) : ∃ l, TkS W v l ∧ TksB 140737488351232 l := by
  obtain ⟨a0, len, cap, rfl⟩ := okWide_slice sT hv
  obtain ⟨fuel, hf⟩ := h
  obtain ⟨al, h1, h2⟩ := tks_of (x := (d, p)) (by simpa [Value.cells] using hf)
  exact ⟨al, h1, h2 _ fun n hn => of_decide_eq_true (List.all_eq_true.1 hsz _ (DataW.weights_mem_each ht hd n hn))⟩
end
end Go.Proofs.YtjpdadibeocpfaaDoor
