/-
  The reference's Attr.
-/
import Derived.Test.YtmapinediglimaaDoorWrAttr
namespace Go.Proofs.YtmapinediglimaaDoor
set_option linter.unusedVariables false
set_option linter.unusedSimpArgs false
open Go.RowKit Go.MapKept Go.Shelf
set_option maxHeartbeats 2000000 in
theorem refAttr_any (kd : Int) (name n t : List UInt8) (al : Ats) (sv : Value) (w : World) (hA : AtS w sv al) :
    Calls Tryd.prog 14 #[.agg #[.int .u8 kd, .string ⟨n.toArray⟩, sv, .string ⟨t.toArray⟩], .string ⟨name.toArray⟩] w fun e w' => e = .returned (attrV name al) ∧ Below w.heap.size w w' := by
  have hS := attr_split name al
  obtain ⟨ptr, cap, rfl, hcap, hcapm, hcells⟩ := hA
  have hmx : (al.length : Int) ≤ 9223372036854775807 := by unfold maxLen at hcapm; omega
  have hB := below1 w (.cells #[.int .u8 kd, .string ⟨n.toArray⟩, .slice ptr al.length cap, .string ⟨t.toArray⟩] 39)
  replace hS := Lib.hid hS
  replace hB := Lib.hid hB
  go_enter Tryd.func14, Tryd.ntmps14
  go_wp2
  go_loopg [6] al.length (fun gg s6 wr => ∃ k : Nat, k ≤ al.length ∧ al.length - k ≤ gg ∧ s6 = .int .i64 k ∧ Hid (∀ j (hj : j < al.length), j < k → (al[j]'hj).1 ≠ name) ∧ wr = w.alloc (.cells #[.int .u8 kd, .string ⟨n.toArray⟩, .slice ptr al.length cap, .string ⟨t.toArray⟩] 39))
  case atStart => exact ⟨0, Nat.zero_le _, by omega, rfl, Lib.hid (fun j _ hj => absurd hj (Nat.not_lt_zero _)), rfl⟩
  case round =>
    obtain ⟨k, hk, hg, rfl, A, rfl⟩ := hrel
    by_cases hlt : k < al.length
    · obtain ⟨b, o, rfl, hb, hcc⟩ := hcells (by omega)
      have e0 := (hB.out.cell (p := ⟨b, o + k * 2, none⟩) hb).trans (hcc k hlt).1
      have e1 := (hB.out.cell (p := ⟨b, o + k * 2 + 1, none⟩) hb).trans (hcc k hlt).2
      clear hcc hcells
      have hk0 : (0 : Int) ≤ (k : Int) := by omega
      have hk1 : (k : Int) < (al.length : Int) := by omega
      have hV : Hid ((al[k]'hlt).1 = name → attrV name al = .tuple #[.string ⟨(al[k]'hlt).2.toArray⟩, .bool true]) := Lib.hid (fun h => by
        rcases hS.out with ⟨j, hj, h1, h2, h3⟩ | ⟨h1, _⟩
        · have : j = k := by
            rcases Nat.lt_trichotomy j k with h' | h' | h'
            · exact absurd h1 (A.out j hj h')
            · exact h'
            · exact absurd h (h2 k h')
          subst this
          unfold attrV
          rw [h3]
        · exact absurd h (h1 k hlt))
      generalize hat : al[k] = at1 at e0 e1 hV
      obtain ⟨x, y⟩ := at1
      replace hat := Lib.hid hat
      by_cases hx : x = name
      · subst hx
        have hVx := hV.out rfl
        replace hVx := Lib.hid hVx
        clear hV
        go_wp2_with fail
        go_ret2
        exact ⟨by rw [hVx.out]; rfl, hB.out⟩
      · have hxb : (x == name) = false := by simpa using hx
        go_wp2_with fail
        go_roundg (al.length - (k + 1))
        case measure => omega
        case rel =>
          refine ⟨k + 1, by omega, by omega, by go_num, Lib.hid (fun j hj h => ?_), rfl⟩
          by_cases e : j = k
          · subst e
            rw [hat.out]; exact hx
          · exact A.out j hj (by omega)
    · have hke : k = al.length := by omega
      subst hke
      have hVn : attrV name al = .tuple #[.string ⟨#[]⟩, .bool false] := by
        rcases hS.out with ⟨j, hj, h1, _, _⟩ | ⟨_, h2⟩
        · exact absurd h1 (A.out j hj hj)
        · unfold attrV; rw [h2]
      replace hVn := Lib.hid hVn
      go_wp2_with fail
      go_ret2
      exact ⟨by rw [hVn.out]; rfl, hB.out⟩
end Go.Proofs.YtmapinediglimaaDoor
