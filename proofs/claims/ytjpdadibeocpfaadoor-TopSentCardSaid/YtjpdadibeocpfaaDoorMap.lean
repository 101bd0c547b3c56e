/-
  Maps that a call makes: their entries as a list of keys and values. No program, no condition.
-/
import Derived.Test.YtjpdadibeocpfaaDoorBase
import Derived.MapKept
import Derived.Maps.Own
namespace Go.Proofs.YtjpdadibeocpfaaDoor
set_option linter.unusedVariables false
set_option linter.unusedSimpArgs false
open Go.RowKit Go.MapKept
/-- block b is a map of these entries -/
def Ents (w : World) (b : Nat) (kv : List (Value × Value)) : Prop := ∃ es clock, w.heap[b]? = some (.map es clock) ∧ es.toList.map (fun e => (e.key, e.val)) = kv
def findKV (d : TypeDesc) (k : Value) : List (Value × Value) → Option Value
  | [] => none
  | (a, v) :: r => if Instr.sameNow d k a = some true then some v else findKV d k r
theorem findNow_kv {d : TypeDesc} {k : Value} (hk : IsKey d k) : ∀ (l : List MapEntry) (i : Nat), (∀ x ∈ l, IsKey d x.key) →
    ∃ r, Instr.findNow d k l i = some r ∧ r.map (·.2) = findKV d k (l.map fun e => (e.key, e.val))
  | [], _, _ => ⟨none, rfl, rfl⟩
  | e :: es, i, h => by
    obtain ⟨r, hr, -⟩ := sameNow_of_keys hk (h e (.head _))
    cases r with
    | true => exact ⟨some (i, e.val), by simp [Instr.findNow, hr], by simp [findKV, hr]⟩
    | false =>
      obtain ⟨q, h1, h2⟩ := findNow_kv hk es (i + 1) fun x hx => h x (.tail _ hx)
      exact ⟨q, by simp [Instr.findNow, hr, h1], by simp [findKV, hr, h2]⟩
theorem Ents.keys {w : World} {b : Nat} {kv : List (Value × Value)} {d : TypeDesc} {es : Array MapEntry} (he : es.toList.map (fun e => (e.key, e.val)) = kv) (hks : ∀ p ∈ kv, IsKey d p.1) : ∀ x ∈ es.toList, IsKey d x.key := by
  intro x hx
  exact hks (x.key, x.val) (by rw [← he]; exact List.mem_map.2 ⟨x, hx, rfl⟩)
section
variable {P : Program} {w : World} {t k e : TypeId} {d : TypeDesc} {b : Nat} {kv : List (Value × Value)}
theorem lookup_ents (c : Bool) (ht : P.underlying t = some (.map k e)) (hd : P.underlying k = some d) {z : Value} (hz : (zeroValue e).run P w = .ok z w) (h : Ents w b kv) (hks : ∀ p ∈ kv, IsKey d p.1) {key : Value} (hkey : IsKey d key) :
    (Instr.lookup t (.map (some b)) key c).run P w = .ok (if c then .tuple #[(findKV d key kv).getD z, .bool (findKV d key kv).isSome] else (findKV d key kv).getD z) w := by
  obtain ⟨es, clock, hb, he⟩ := h
  obtain ⟨r, h1, h2⟩ := findNow_kv hkey es.toList 0 (Ents.keys (w := w) (b := b) he hks)
  rw [he] at h2
  rw [← h2]
  cases r with
  | none => cases c <;> simp [Instr.lookup, run_underlying ht, MapKept.run_getObj_map hb, MapKept.run_checkKey hd hkey, MapKept.run_findKey hd h1, hz, Result.andThen]
  | some q => cases c <;> simp [Instr.lookup, run_underlying ht, MapKept.run_getObj_map hb, MapKept.run_checkKey hd hkey, MapKept.run_findKey hd h1, Result.andThen]
/-- w1 is w but for the map at b -/
structure Turned (b : Nat) (w w1 : World) : Prop where
  other : ∀ i, i ≠ b → w1.heap[i]? = w.heap[i]?
  size : w1.heap.size = w.heap.size
  os : w1.os = w.os
  tape : w1.tape = w.tape
  output : w1.output = w.output
theorem Turned.below {w1 a : World} {B : Nat} (h : Turned b w w1) (hb : Below B a w) (hB : B ≤ b) : Below B a w1 :=
  ⟨h.os.trans hb.os, h.tape.trans hb.tape, h.output.trans hb.output, by rw [h.size]; exact hb.size, fun i hi => (h.other i (by omega)).trans (hb.block i hi)⟩
theorem Turned.cell {w1 : World} (h : Turned b w w1) {p : Addr} (hp : p.block ≠ b) : w1.cell? p = w.cell? p := World.cell?_of_block (w := w) (h.other p.block hp)
theorem store_ents (ht : P.underlying t = some (.map k e)) (hd : P.underlying k = some d) (h : Ents w b kv) (hks : ∀ p ∈ kv, IsKey d p.1) {key : Value} (hkey : IsKey d key) (hnew : findKV d key kv = none) (val : Value) :
    ∃ w1, (Instr.mapUpdate t (.map (some b)) key val).run P w = .ok () w1 ∧ Ents w1 b (kv ++ [(key, val)]) ∧ Turned b w w1 := by
  obtain ⟨es, clock, hb, he⟩ := h
  obtain ⟨r, h1, h2⟩ := findNow_kv hkey es.toList 0 (Ents.keys (w := w) (b := b) he hks)
  rw [he, hnew] at h2
  obtain rfl : r = none := by cases r <;> simp_all
  refine ⟨{ w with heap := w.heap.setIfInBounds b (.map (es.push { key, val, born := clock }) (clock + 1)) }, ?_, ⟨_, _, (heap_set hb).1, ?_⟩, ⟨(heap_set hb).2, by simp, rfl, rfl, rfl⟩⟩
  · simp [Instr.mapUpdate, run_underlying ht, MapKept.run_getObj_map hb, MapKept.run_checkKey hd hkey, MapKept.run_findKey hd h1, MapKept.run_setObj_map _ hb, Result.andThen]
  · simp [he]
theorem len_ents (ht : P.underlying t = some (.map k e)) (h : Ents w b kv) (ty : TypeId) : (Builtin.len_ #[t] ty #[.map (some b)]).run P w = .ok (.int .i64 kv.length) w := by
  obtain ⟨es, clock, hb, rfl⟩ := h
  simp [Builtin.len_, run_underlying ht, MapKept.run_getObj_map hb, goInt, Result.andThen]
theorem Ents.below {w1 : World} (h : Ents w b kv) (hb : Below w.heap.size w w1) : Ents w1 b kv := by
  obtain ⟨es, clock, h1, h2⟩ := h
  have hlt : b < w.heap.size := by
    rcases Nat.lt_or_ge b w.heap.size with h | h
    · exact h
    · rw [Array.getElem?_eq_none h] at h1; cases h1
  exact ⟨es, clock, (hb.block b hlt).trans h1, h2⟩
theorem Ents.lt (h : Ents w b kv) : b < w.heap.size := by
  obtain ⟨es, clock, h1, h2⟩ := h
  rcases Nat.lt_or_ge b w.heap.size with h | h
  · exact h
  · rw [Array.getElem?_eq_none h] at h1; cases h1
theorem Ents.alloc (h : Ents w b kv) (o : Obj) : Ents (w.alloc o) b kv := h.below (below1 w o)
theorem Ents.made (w : World) : Ents (w.alloc (.map #[] 0)) w.heap.size [] := ⟨#[], 0, (heap_alloc _ _).1, rfl⟩
theorem Ents.grown {w1 : World} {row : Option Nat} (h : Ents w b kv) (hg : w.grownBy w1 row) (hne : some b ≠ row) : Ents w1 b kv := by
  have hlt := h.lt
  obtain ⟨es, clock, h1, h2⟩ := h
  exact ⟨es, clock, (hg.block b hlt hne).trans h1, h2⟩
/-- a store of a new key into a map that lies last -/
theorem insert_top (ht : P.underlying t = some (.map k e)) (hd : P.underlying k = some d) (es : Array MapEntry) (clock : Nat) {key : Value} (hkey : IsKey d key) (hnew : Instr.findNow d key es.toList 0 = some none) (val : Value) :
    (Instr.mapUpdate t (.map (some w.heap.size)) key val).run P (w.alloc (.map es clock)) = .ok () (w.alloc (.map (es.push { key, val, born := clock }) (clock + 1))) := by
  have hb : (w.alloc (.map es clock)).heap[w.heap.size]? = some (.map es clock) := (heap_alloc _ _).1
  have hset : { w.alloc (.map es clock) with heap := (w.alloc (.map es clock)).heap.setIfInBounds w.heap.size (.map (es.push { key, val, born := clock }) (clock + 1)) } = w.alloc (.map (es.push { key, val, born := clock }) (clock + 1)) := by
    simp only [World.alloc]
    congr 1
    apply Array.ext'
    simp [Array.setIfInBounds, Array.toList_push]
  simp [Instr.mapUpdate, run_underlying ht, MapKept.run_getObj_map hb, MapKept.run_checkKey hd hkey, MapKept.run_findKey hd hnew, MapKept.run_setObj_map _ hb, Result.andThen]
  exact hset
end
end Go.Proofs.YtjpdadibeocpfaaDoor
