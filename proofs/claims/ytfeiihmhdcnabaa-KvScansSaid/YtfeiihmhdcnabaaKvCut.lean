/-
  The reference's Size; cut, by the program. Condition: bytes within the reach.
-/
import Derived.Test.YtfeiihmhdcnabaaKvRefB
import Derived.Laws.BytesArg
namespace Go.Proofs.Ytfeiihmhdcnabaa
set_option linter.unusedVariables false
set_option linter.unusedSimpArgs false
open Go.RowKit Go.MapKept
theorem refSize_any (g : Nat) (E : Ats) (w : World) (h : RfS w g E) :
    Calls Try.prog 31 #[.pointer (some ⟨g, 0, none⟩)] w fun e w' => e = .returned (.int .i64 (sizeE E)) ∧ Below w.heap.size w w' := by
  have hb := Lib.hid (refBytes_any g E w h)
  clear h
  go_enter Try.func31, Try.ntmps31
  go_wp2_with (go_at_call 32; refine hb.out.mono ?_; rintro e w1 ⟨sv, rfl, hO, hb1⟩; obtain ⟨a1, c1, rfl⟩ := owns_shp hO; replace hO := Lib.hid hO)
  go_ret
  exact ⟨rfl, hb1⟩
/-- a slice of bytes -/
def BySl (w : World) (v : Value) (l : List UInt8) : Prop :=
  ∃ ptr cap, v = .slice ptr l.length cap ∧ l.length ≤ cap ∧ cap ≤ maxLen ∧ (0 < l.length → ∃ b o, ptr = some ⟨b, o, none⟩ ∧ b < w.heap.size ∧ ∀ i (h : i < l.length), w.cell? ⟨b, o + i, none⟩ = some (.int .u8 ((l[i]'h).toNat : Int)))
theorem BySl.below {w w' : World} {v : Value} {l : List UInt8} (h : BySl w v l) (hb : Below w.heap.size w w') : BySl w' v l := by
  obtain ⟨p, c, h1, h2, h3, h4⟩ := h
  refine ⟨p, c, h1, h2, h3, fun h0 => ?_⟩
  obtain ⟨b, o, e, hbl, hc⟩ := h4 h0
  exact ⟨b, o, e, Nat.lt_of_lt_of_le hbl hb.size, fun i hi => (hb.cell (p := ⟨b, o + i, none⟩) hbl).trans (hc i hi)⟩
theorem BySl.of_own {w : World} {base : Nat} {v : Value} {l : List UInt8} (h : OwnU w base v l) : BySl w v l := by
  rcases h.2 with ⟨rfl, h0⟩ | ⟨g, cap, cur, rfl, hb, hg, h1, h2, -⟩
  · exact ⟨none, 0, by rw [h0], by omega, by simp, fun h' => absurd h' (by omega)⟩
  · refine ⟨some ⟨g, 0, none⟩, cap, rfl, h1, h2, fun _ => ⟨g, 0, rfl, (Array.getElem?_eq_some_iff.1 hg).1, fun i hi => ?_⟩⟩
    have hc := World.ownsRow.cells h (g := g) rfl i (.int .u8 ((l[i]'hi).toNat : Int)) (by simp [Lib.byteCells, hi])
    rw [Addr.add_lit] at hc
    exact hc
theorem BySl.string {w : World} {v : Value} {l : List UInt8} (h : BySl w v l) : (convert 26 9 v).run Try.prog w = .ok (.string ⟨l.toArray⟩) w := by
  obtain ⟨p, c, rfl, h2, h3, h4⟩ := h
  rcases Nat.eq_zero_or_pos l.length with h0 | h0
  · have : l = [] := List.length_eq_zero_iff.1 h0
    subst this
    cases p with
    | none => exact run_convert_bytes_nil (P := Try.prog) w 26 5 Try.underlying26 Try.underlying5 0 c 9 Try.underlying9
    | some ad =>
      have hl : (loadCells ad 0).run Try.prog w = .ok ((([] : List Int).map (Value.int .u8)).toArray) w := by simpa using run_loadCells_list (P := Try.prog) w ad [] (fun j v h => by simp at h)
      show (convert 26 9 (.slice (some ad) 0 c)).run Try.prog w = _
      rw [run_convert_bytes_string w 26 9 5 _ 0 c Try.underlying26 Try.underlying5 Try.underlying9, run_bytesToString w ad 0 c [] hl]
      rfl
  · obtain ⟨b, o, rfl, hbl, hc⟩ := h4 h0
    rw [run_convert_bytes_arg w 26 5 Try.underlying26 Try.underlying5 b o l.length c (l.map fun c => (c.toNat : Int)) (by simp) (fun i hi => ?_) 9 Try.underlying9]
    · congr 2
      simp [strOfNums, Function.comp_def]
    · rw [hc i hi]
      simp [List.getD, hi]
/-- where a slice goes on -/
def fromP (p : Option Addr) (c k : Nat) : Option Addr := if c = k then p else p.map fun x => x.add k
theorem BySl.from {w : World} {p : Option Addr} {c n k : Nat} {l : List UInt8} (h : BySl w (.slice p n c) l) (hk : k ≤ n) : BySl w (.slice (fromP p c k) (n - k) (c - k)) (l.drop k) := by
  obtain ⟨p', c', he, h2, h3, h4⟩ := h
  obtain ⟨rfl, rfl, rfl⟩ := Value.slice.inj he
  refine ⟨_, c - k, by rw [List.length_drop], by rw [List.length_drop]; omega, Nat.le_trans (Nat.sub_le _ _) h3, fun h0 => ?_⟩
  rw [List.length_drop] at h0
  obtain ⟨b, o, rfl, hb, hc⟩ := h4 (by omega)
  refine ⟨b, o + k, by unfold fromP; rw [if_neg (by omega)]; simp [Addr.add], hb, fun i hi => ?_⟩
  rw [List.length_drop] at hi
  rw [List.getElem_drop, Nat.add_assoc]
  exact hc (k + i) (by omega)
set_option maxHeartbeats 1000000 in
theorem cut_no (v : Value) (l : List UInt8) (n : Nat) (w : World) (h : BySl w v l) (hn : l.length < n) :
    Calls Try.prog 36 #[v, .int .i64 n] w fun e w' => e = .returned (.tuple #[.string ⟨#[]⟩, .slice none 0 0, .bool false]) ∧ w = w' := by
  obtain ⟨p, c, rfl, h2, h3, h4⟩ := h
  have hni : (l.length : Int) < (n : Int) := by omega
  clear h4
  go_enter Try.func36, Try.ntmps36
  go_wp2
  go_ret3
  exact ⟨rfl, rfl⟩
set_option maxRecDepth 100000 in
set_option maxHeartbeats 1000000 in
theorem cut_q (p : Option Addr) (l : List UInt8) (c n : Nat) (w : World) (h : BySl w (.slice p l.length c) l) (hn : n ≤ l.length) :
    Calls Try.prog 36 #[.slice p l.length c, .int .i64 n] w fun e w' => e = .returned (.tuple #[.string ⟨(l.take n).toArray⟩, .slice (fromP p c n) (l.length - n) (c - n), .bool true]) ∧ ∃ m, w' = w.drewN m := by
  obtain ⟨p', c', he', h2, h3, h4⟩ := h
  obtain ⟨rfl, -, rfl⟩ := Value.slice.inj he'
  clear he'
  have hni : ¬ (l.length : Int) < (n : Int) := by omega
  have hn0 : (0 : Int) ≤ (n : Int) := by omega
  have hnc : (n : Int) ≤ (c : Int) := by omega
  have hnl : (n : Int) ≤ (l.length : Int) := by omega
  have hconv : (convert 26 9 (.slice p n c)).run Try.prog w.drew = .ok (.string ⟨(l.take n).toArray⟩) w.drew := by
    refine BySl.string ⟨p, c, by rw [List.length_take]; congr 1; omega, by rw [List.length_take]; omega, h3, fun h0 => ?_⟩
    rw [List.length_take] at h0
    obtain ⟨b, o, e, hb, hc⟩ := h4 (by omega)
    refine ⟨b, o, e, hb, fun i hi => ?_⟩
    rw [List.length_take] at hi
    rw [List.getElem_take]
    exact hc i (by omega)
  go_enter Try.func36, Try.ntmps36
  go_wp2
  refine wp_region_float (by kernel_rfl) (by kernel_rfl) (fun Wx => Wx = w.drew) rfl ?_
  simp only [List.toList_toArray]
  repeat (first
    | (apply Flo.skip; · rfl
       simp only [Act.put, List.setIfInBounds_toArray, List.set_cons_zero, List.set_cons_succ])
    | (apply Flo.val; · rfl
       · (rintro Wx rfl; go_simp; with_reducible rfl)
       simp only [Act.put, List.setIfInBounds_toArray, List.set_cons_zero, List.set_cons_succ])
    | fail)
  rintro Wx rfl
  generalize hq : (if c = n then p else Option.map (fun x => x.add n) p) = q
  replace hq := Lib.hid hq
  replace h4 := Lib.hid h4
  go_wp2
  go_ret3
  refine ⟨?_, 1, rfl⟩
  rw [show fromP p c n = q from hq.out]
  rfl
end Go.Proofs.Ytfeiihmhdcnabaa
