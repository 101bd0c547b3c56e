/-
  A row of texts of the call's own, sorted by the library (slices.Sort). Condition: at most 10^7 texts.
-/
import Derived.Test.YtoijpjmkjhoiaaaFnMap
import Derived.Test.YtoijpjmkjhoiaaaShelf
import Derived.Shelf.Slices.In.SortNone
import Derived.Sort.Grow
namespace Go.Proofs.Ytoijpjmkjhoiaaa
set_option linter.unusedVariables false
set_option linter.unusedSimpArgs false
open Go.RowKit Go.MapKept Go.Sort Go.Shelf
def TxS (w : World) (v : Value) (l : List Tx) : Prop :=
  ∃ ptr cap, v = .slice ptr l.length cap ∧ (0 < l.length → ∃ b o, ptr = some ⟨b, o, none⟩ ∧ b < w.heap.size ∧ ∀ i (h : i < l.length), w.cell? ⟨b, o + i, none⟩ = some (.string ⟨(l[i]'h).toArray⟩))
def txC (l : List Tx) : List Value := l.map fun n => .string ⟨n.toArray⟩
theorem sortTx (l : List Tx) (base : Nat) (v : Value) (w : World) (hO : w.ownsRow base 9 1 v l.length (txC l)) (hl : l.length ≤ 10000000) :
    Calls Try.prog 19 #[v] w fun e w' => e = .returned (.tuple #[]) ∧ TxS w' v (l.mergeSort fun x y => decide (x ≤ y)) ∧ Below base w w' := by
  have hlen : (l.mergeSort fun x y => decide (x ≤ y)).length = l.length := List.length_mergeSort _
  rcases hO.2 with ⟨rfl, h0⟩ | ⟨g, cap, cur, rfl, hbg, hg, h1, h2, h3, h4⟩
  · have h := calls_of_every_depth fun D => AnyS.slices_Sort_string_none_in Try.lays190 D none 0 w
    refine h.mono ?_
    rintro e w' ⟨rfl, rfl⟩
    exact ⟨rfl, ⟨none, 0, by rw [hlen, h0], fun h => absurd h (by rw [hlen]; omega)⟩, Below.refl _ _⟩
  · have hglt := (Array.getElem?_eq_some_iff.1 hg).1
    have hH : Holds encStr w g 0 l.toArray := fun j hj => by
      have hj' : j < l.length := by simpa using hj
      have hc := World.ownsRow.cells hO (g := g) rfl j (.string ⟨(l[j]'hj').toArray⟩) (by simp [txC, hj'])
      rw [Addr.add_lit] at hc
      have e1 : (l.toArray)[j]! = l[j]'hj' := by rw [getElem!_pos _ j hj]; simp
      rw [e1]
      exact ⟨hc, by have := (obj_cells hg).2.1 (0 + j); exact this⟩
    refine (Try.slices_Sort_string g 0 cap l w hH hglt (by omega)).mono ?_
    rintro e w' ⟨rfl, n, os, rfl⟩
    have hP : Holds encStr (putRow encStr (Sort.ahead w n) g 0 (l.mergeSort fun x y => decide (x ≤ y)).toArray) g 0 (l.mergeSort fun x y => decide (x ≤ y)).toArray := holds_putRow encStr (Sort.ahead w n) g 0 l.toArray _ hH (by simp [hlen])
    have hsz : (putRow encStr (Sort.ahead w n) g 0 (l.mergeSort fun x y => decide (x ≤ y)).toArray).heap.size = w.heap.size := by simp
    refine ⟨rfl, ⟨some ⟨g, 0, none⟩, cap, by rw [hlen], fun _ => ⟨g, 0, rfl, by rw [size_grow, hsz]; omega, fun i hi => ?_⟩⟩, ⟨rfl, rfl, rfl, by rw [size_grow, hsz]; omega, fun k hk => ?_⟩⟩
    · rw [cell?_grow _ _ _ (by rw [hsz]; exact hglt)]
      have h := (hP i (by simpa using hi)).1
      rw [h]
      have e1 : ((l.mergeSort fun x y => decide (x ≤ y)).toArray)[i]! = (l.mergeSort fun x y => decide (x ≤ y))[i]'hi := by rw [getElem!_pos _ i (by simpa using hi)]; simp
      rw [e1]
    · have hk2 : k ≠ g := by omega
      rw [heap_grow_old _ _ (by rw [hsz]; omega)]
      show ((Sort.ahead w n).heap.modify g _)[k]? = _
      rw [Array.getElem?_modify, if_neg (fun e => hk2 e.symm)]
      rfl
end Go.Proofs.Ytoijpjmkjhoiaaa
