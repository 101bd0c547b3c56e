/-
  Tokens: how they lie in memory. No program, no condition.
-/
import Derived.Test.YtjpdadibeocpfaaDoorMap
namespace Go.Proofs.YtjpdadibeocpfaaDoor
set_option linter.unusedVariables false
set_option linter.unusedSimpArgs false
open Go.RowKit Go.MapKept
/-- attributes: names and values -/
abbrev Ats := List (List UInt8 × List UInt8)
structure Tk where
  k : Int
  n : List UInt8
  as : Ats
  t : List UInt8
/-- a slice of attributes -/
def AtS (w : World) (sv : Value) (as : Ats) : Prop :=
  ∃ ptr cap, sv = .slice ptr as.length cap ∧ as.length ≤ cap ∧ cap ≤ maxLen ∧ (0 < as.length → ∃ b o, ptr = some ⟨b, o, none⟩ ∧ b < w.heap.size ∧
    ∀ i (h : i < as.length), w.cell? ⟨b, o + i * 2, none⟩ = some (.string ⟨(as[i]'h).1.toArray⟩) ∧ w.cell? ⟨b, o + i * 2 + 1, none⟩ = some (.string ⟨(as[i]'h).2.toArray⟩))
theorem AtS.below {w w' : World} {sv : Value} {as : Ats} (h : AtS w sv as) (hb : Below w.heap.size w w') : AtS w' sv as := by
  obtain ⟨ptr, cap, h1, h2, h2', h3⟩ := h
  refine ⟨ptr, cap, h1, h2, h2', fun h0 => ?_⟩
  obtain ⟨b, o, h4, h5, h6⟩ := h3 h0
  obtain ⟨hc, -⟩ := bat hb b h5
  exact ⟨b, o, h4, Nat.lt_of_lt_of_le h5 hb.size, fun i hi => ⟨(hc _).trans (h6 i hi).1, (hc _).trans (h6 i hi).2⟩⟩
/-- a token's four cells, as a value -/
def TkV (w : World) (tk : Tk) (sv : Value) : Prop := AtS w sv tk.as
def tkC (tk : Tk) (sv : Value) : Array Value := #[.int .u8 tk.k, .string ⟨tk.n.toArray⟩, sv, .string ⟨tk.t.toArray⟩]
/-- no text beyond the reach -/
def Tk.small (tk : Tk) : Prop := tk.n.length ≤ 140737488351232 ∧ tk.t.length ≤ 140737488351232 ∧ tk.as.length ≤ 140737488351232 ∧ ∀ p ∈ tk.as, p.1.length ≤ 140737488351232 ∧ p.2.length ≤ 140737488351232
/-- a slice of tokens -/
def TkS (w : World) (v : Value) (l : List Tk) : Prop :=
  ∃ ptr cap, v = .slice ptr l.length cap ∧ l.length ≤ cap ∧ cap ≤ maxLen ∧ (0 < l.length → ∃ b o, ptr = some ⟨b, o, none⟩ ∧ b < w.heap.size ∧
    ∀ i (h : i < l.length), ∃ sv, w.cell? ⟨b, o + i * 4, none⟩ = some (.int .u8 (l[i]'h).k) ∧ w.cell? ⟨b, o + i * 4 + 1, none⟩ = some (.string ⟨(l[i]'h).n.toArray⟩) ∧ w.cell? ⟨b, o + i * 4 + 2, none⟩ = some sv ∧ w.cell? ⟨b, o + i * 4 + 3, none⟩ = some (.string ⟨(l[i]'h).t.toArray⟩) ∧ AtS w sv (l[i]'h).as)
theorem TkS.below {w w' : World} {v : Value} {l : List Tk} (h : TkS w v l) (hb : Below w.heap.size w w') : TkS w' v l := by
  obtain ⟨ptr, cap, h1, h2, h2', h3⟩ := h
  refine ⟨ptr, cap, h1, h2, h2', fun h0 => ?_⟩
  obtain ⟨b, o, h4, h5, h6⟩ := h3 h0
  obtain ⟨hc, -⟩ := bat hb b h5
  refine ⟨b, o, h4, Nat.lt_of_lt_of_le h5 hb.size, fun i hi => ?_⟩
  obtain ⟨sv, c0, c1, c2, c3, c4⟩ := h6 i hi
  exact ⟨sv, (hc _).trans c0, (hc _).trans c1, (hc _).trans c2, (hc _).trans c3, c4.below hb⟩
/-- a set of names, as a map's entries -/
def setKV (ns : List (List UInt8)) : List (Value × Value) := ns.map fun n => (.string ⟨n.toArray⟩, .bool true)
theorem set_keys (ns : List (List UInt8)) : ∀ p ∈ setKV ns, IsKey .string p.1 := by
  intro p hp
  obtain ⟨n, _, rfl⟩ := List.mem_map.1 hp
  trivial
theorem find_set (x : List UInt8) : ∀ ns : List (List UInt8), findKV .string (.string ⟨x.toArray⟩) (setKV ns) = if ns.contains x then some (.bool true) else none
  | [] => rfl
  | n :: ns => by
    have ih := find_set x ns
    have e : Instr.sameNow .string (.string ⟨x.toArray⟩) (.string ⟨n.toArray⟩) = some (x == n) := by
      simp only [Instr.sameNow, Option.some.injEq]
      rw [Bool.eq_iff_iff, bytes_beq]
      simp
    unfold setKV at ih ⊢
    rw [List.map_cons, findKV, e, ih, List.contains_cons]
    cases x == n <;> simp
theorem at_nil (w : World) (c : Nat) (hc : c ≤ maxLen) : AtS w (.slice none 0 c) [] := ⟨none, c, rfl, Nat.zero_le _, hc, fun h => absurd h (by simp)⟩
theorem tk_nil (w : World) (c : Nat) (hc : c ≤ maxLen) : TkS w (.slice none 0 c) [] := ⟨none, c, rfl, Nat.zero_le _, hc, fun h => absurd h (by simp)⟩
theorem at_one (w : World) (b : Nat) (hb : b < w.heap.size) (c : Nat) (hc1 : 1 ≤ c) (hc : c ≤ maxLen) (x y : List UInt8) (h0 : w.cell? ⟨b, 0, none⟩ = some (.string ⟨x.toArray⟩)) (h1 : w.cell? ⟨b, 1, none⟩ = some (.string ⟨y.toArray⟩)) : AtS w (.slice (some ⟨b, 0, none⟩) 1 c) [(x, y)] :=
  ⟨_, c, rfl, hc1, hc, fun _ => ⟨b, 0, rfl, hb, fun i hi => by
    obtain rfl : i = 0 := by simpa using hi
    exact ⟨h0, h1⟩⟩⟩
theorem tk_one (w : World) (b : Nat) (hb : b < w.heap.size) (c : Nat) (hc1 : 1 ≤ c) (hc : c ≤ maxLen) (k : Int) (n t : List UInt8) (sv : Value) (al : Ats) (h0 : w.cell? ⟨b, 0, none⟩ = some (.int .u8 k)) (h1 : w.cell? ⟨b, 1, none⟩ = some (.string ⟨n.toArray⟩)) (h2 : w.cell? ⟨b, 2, none⟩ = some sv) (h3 : w.cell? ⟨b, 3, none⟩ = some (.string ⟨t.toArray⟩)) (hA : AtS w sv al) : TkS w (.slice (some ⟨b, 0, none⟩) 1 c) [⟨k, n, al, t⟩] :=
  ⟨_, c, rfl, hc1, hc, fun _ => ⟨b, 0, rfl, hb, fun i hi => by
    obtain rfl : i = 0 := by simpa using hi
    exact ⟨sv, h0, h1, h2, h3, hA⟩⟩⟩
end Go.Proofs.YtjpdadibeocpfaaDoor
