/-
  A token's attribute by its name: write.Attr (slices.IndexFunc with a closure), and the reference's.
-/
import Derived.Test.YtfmheobofikkmaaWrElem
import Derived.Deep.LoopGhost
import Derived.Shelf.Abstract
import Derived.Test.YtfmheobofikkmaaBase
namespace Go.Proofs.Ytfmheobofikkmaa
set_option linter.unusedVariables false
set_option linter.unusedSimpArgs false
open Go.RowKit Go.MapKept Go.Shelf
def attrR (name : List UInt8) (al : Ats) : Option (List UInt8) := (al.find? (fun p => p.1 == name)).map (·.2)
def attrV (name : List UInt8) (al : Ats) : Value := match attrR name al with
  | some v => .tuple #[.string ⟨v.toArray⟩, .bool true]
  | none => .tuple #[.string ⟨#[]⟩, .bool false]
theorem attr_split (name : List UInt8) : ∀ al : Ats, (∃ k, ∃ h : k < al.length, (al[k]'h).1 = name ∧ (∀ i (hi : i < k), (al[i]'(Nat.lt_trans hi h)).1 ≠ name) ∧ attrR name al = some (al[k]'h).2) ∨ ((∀ i (hi : i < al.length), (al[i]'hi).1 ≠ name) ∧ attrR name al = none)
  | [] => .inr ⟨fun i hi => absurd hi (by simp), rfl⟩
  | p :: al => by
    by_cases hp : p.1 = name
    · exact .inl ⟨0, by simp, hp, fun i hi => absurd hi (by omega), by unfold attrR; rw [List.find?_cons_of_pos (by simpa using hp)]; rfl⟩
    · have e : attrR name (p :: al) = attrR name al := by unfold attrR; rw [List.find?_cons_of_neg (by simpa using hp)]
      rcases attr_split name al with ⟨k, h, h1, h2, h3⟩ | ⟨h1, h2⟩
      · refine .inl ⟨k + 1, by simpa using h, h1, fun i hi => ?_, e.trans h3⟩
        cases i with
        | zero => exact hp
        | succ i => exact h2 i (by omega)
      · refine .inr ⟨fun i hi => ?_, e.trans h2⟩
        cases i with
        | zero => exact hp
        | succ i => exact h1 i (by simpa using hi)
theorem closure_any (name x y : List UInt8) (B : Nat) (w : World) (hB : B < w.heap.size) (hc : w.cell? ⟨B, 0, none⟩ = some (.string ⟨name.toArray⟩)) :
    Calls Try.prog 25 #[.agg #[.string ⟨x.toArray⟩, .string ⟨y.toArray⟩], .pointer (some ⟨B, 0, none⟩)] w fun e w' => e = .returned (.bool (decide (x = name))) ∧ Below w.heap.size w w' := by
  go_enter Try.func25, Try.ntmps25
  go_wp2
  go_ret
  exact ⟨by rw [show (x == name) = decide (x = name) by rw [Bool.eq_iff_iff]; simp]; rfl, below1 w _⟩
set_option maxHeartbeats 2000000 in
theorem index_hit (name : List UInt8) (al : Ats) (sv : Value) (B : Nat) (w : World) (hA : AtS w sv al) (hB : B < w.heap.size) (hc : w.cell? ⟨B, 0, none⟩ = some (.string ⟨name.toArray⟩)) :
    Calls Try.prog 24 #[sv, .func (.func 25) #[] #[.pointer (some ⟨B, 0, none⟩)]] w fun e w' =>
      ((∃ k, ∃ h : k < al.length, (al[k]'h).1 = name ∧ (∀ i (hi : i < k), (al[i]'(Nat.lt_trans hi h)).1 ≠ name) ∧ e = .returned (.int .i64 k)) ∨ ((∀ i (hi : i < al.length), (al[i]'hi).1 ≠ name) ∧ e = .returned (.int .i64 (-1)))) ∧ Below w.heap.size w w' := by
  obtain ⟨ptr, cap, rfl, hcap, hcapm, hcells⟩ := hA
  have hmx : (al.length : Int) ≤ 9223372036854775807 := by unfold maxLen at hcapm; omega
  have eg := enters_of (P := Try.prog) Try.func25 (by kernel_rfl) rfl
  go_enter Try.func24, Try.ntmps24
  go_wp2
  go_loopg [5, 8] al.length (fun gg _ s8 wr => ∃ kk : Nat, kk ≤ al.length ∧ al.length - kk ≤ gg ∧ s8 = .int .i64 kk ∧ Hid (Below w.heap.size w wr) ∧ Hid (∀ j (hj : j < al.length), j < kk → (al[j]'hj).1 ≠ name))
  case atStart => exact ⟨0, Nat.zero_le _, by omega, rfl, Below.refl _ w, fun j _ hj => absurd hj (Nat.not_lt_zero _)⟩
  case round =>
    obtain ⟨kk, hkk, hg, rfl, BW, A⟩ := hrel
    by_cases hlt : kk < al.length
    · obtain ⟨b, o, rfl, hb, hcc⟩ := hcells (by omega)
      have e0 := (BW.out.cell (p := ⟨b, o + kk * 2, none⟩) hb).trans (hcc kk hlt).1
      have e1 := (BW.out.cell (p := ⟨b, o + kk * 2 + 1, none⟩) hb).trans (hcc kk hlt).2
      have hcl := closure_any name (al[kk]'hlt).1 (al[kk]'hlt).2 B wr (Nat.lt_of_lt_of_le hB BW.out.size) ((BW.out.cell (p := ⟨B, 0, none⟩) hB).trans hc)
      clear hcc hcells
      generalize hat : al[kk] = at1 at e0 e1 hcl
      obtain ⟨x, y⟩ := at1
      have hat' := Lib.hid hat
      clear hat
      by_cases hx : x = name
      · rw [decide_eq_true hx] at hcl
        replace hx := Lib.hid hx
        go_wp2_with (go_at_call 25; refine hcl.mono ?_; rintro e w' ⟨rfl, hb'⟩)
        go_ret
        exact ⟨.inl ⟨kk, hlt, (by rw [hat'.out]; exact hx.out), fun i hi => A.out i (Nat.lt_trans hi hlt) hi, rfl⟩, belowT BW.out hb'⟩
      · rw [decide_eq_false hx] at hcl
        replace hx := Lib.hid hx
        go_wp2_with (go_at_call 25; refine hcl.mono ?_; rintro e w' ⟨rfl, hb'⟩)
        go_roundg (al.length - (kk + 1))
        case measure => omega
        case rel =>
          refine ⟨kk + 1, by omega, by omega, by go_num, belowT BW.out hb', Lib.hid (fun j hj h => ?_)⟩
          by_cases e : j = kk
          · subst e
            rw [hat'.out]; exact hx.out
          · exact A.out j hj (by omega)
    · have : kk = al.length := by omega
      subst this
      go_wp2
      go_ret
      exact ⟨.inr ⟨fun i hi => A.out i hi hi, rfl⟩, BW.out⟩
theorem index_eq (r : Int) (name : List UInt8) (al : Ats) (sv : Value) (B : Nat) (w : World) (hA : AtS w sv al) (hB : B < w.heap.size) (hc : w.cell? ⟨B, 0, none⟩ = some (.string ⟨name.toArray⟩))
    (hr : (∃ k, ∃ h : k < al.length, (al[k]'h).1 = name ∧ (∀ i (hi : i < k), (al[i]'(Nat.lt_trans hi h)).1 ≠ name) ∧ r = k) ∨ ((∀ i (hi : i < al.length), (al[i]'hi).1 ≠ name) ∧ r = -1)) :
    Calls Try.prog 24 #[sv, .func (.func 25) #[] #[.pointer (some ⟨B, 0, none⟩)]] w fun e w' => e = .returned (.int .i64 r) ∧ Below w.heap.size w w' := by
  refine (index_hit name al sv B w hA hB hc).mono ?_
  rintro e w' ⟨h, hb⟩
  refine ⟨?_, hb⟩
  rcases hr with ⟨k, hk, h1, h2, rfl⟩ | ⟨h1, rfl⟩ <;> rcases h with ⟨j, hj, g1, g2, rfl⟩ | ⟨g1, rfl⟩
  · rcases Nat.lt_trichotomy j k with h | h | h
    · exact absurd g1 (h2 j h)
    · rw [h]
    · exact absurd h1 (g2 k h)
  · exact absurd h1 (g1 k hk)
  · exact absurd g1 (h1 j hj)
  · rfl
set_option maxHeartbeats 2000000 in
theorem attr_any (k : Int) (name n t : List UInt8) (al : Ats) (sv : Value) (w : World) (hA : AtS w sv al) :
    Calls Try.prog 15 #[.agg #[.int .u8 k, .string ⟨n.toArray⟩, sv, .string ⟨t.toArray⟩], .string ⟨name.toArray⟩] w fun e w' => e = .returned (attrV name al) ∧ Below w.heap.size w w' := by
  have hAx := hA
  obtain ⟨ptr, cap, rfl, hcap, hcapm, hcells⟩ := hA
  have hmx : (al.length : Int) ≤ 9223372036854775807 := by unfold maxLen at hcapm; omega
  rcases attr_split name al with ⟨j, hj, h1, h2, h3⟩ | ⟨h1, h2⟩
  · obtain ⟨b, o, rfl, hb, hcc⟩ := hcells (by omega)
    have c1 := (hcc j hj).2
    clear hcc hcells
    unfold attrV
    rw [h3]
    go_enter Try.func15, Try.ntmps15
    go_wp2_with (go_at_call 24
                 refine (index_eq j name al _ (w.heap.size + 1) _ (hAx.below (((below1 w _).alloc (by simp) _))) (by simp) (by simp) (.inl ⟨j, hj, h1, h2, rfl⟩)).mono ?_
                 rintro e w1 ⟨rfl, hb1⟩
                 have hb2 : Below w.heap.size w w1 := belowT (belowA (below1 w _) _) hb1
                 have e0 := (bat hb1 w.heap.size (by simp; omega)).1 2
                 have e1 := (hb2.cell (p := ⟨b, o + j * 2 + 1, none⟩) hb).trans c1
                 clear h1 h2)
    go_ret2
    exact ⟨rfl, hb2⟩
  · unfold attrV
    rw [h2]
    go_enter Try.func15, Try.ntmps15
    go_wp2_with (go_at_call 24
                 refine (index_eq (-1) name al _ (w.heap.size + 1) _ (hAx.below (((below1 w _).alloc (by simp) _))) (by simp) (by simp) (.inr ⟨h1, rfl⟩)).mono ?_
                 rintro e w1 ⟨rfl, hb1⟩
                 have hb2 : Below w.heap.size w w1 := belowT (belowA (below1 w _) _) hb1
                 clear h1)
    go_ret2
    exact ⟨rfl, hb2⟩
end Go.Proofs.Ytfmheobofikkmaa
