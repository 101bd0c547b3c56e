/-
  Names of nodes and items in plain words, and what decoding a character says of them. No program, no condition.
-/
import Derived.Test.YtmapinediglimaaDoorTxA
import Derived.Laws.RangeAny
namespace Go.Proofs.YtmapinediglimaaDoor
set_option linter.unusedVariables false
set_option linter.unusedSimpArgs false
open Go.RowKit
def okCh (c : Nat) : Bool := decide (97 ≤ c ∧ c ≤ 122) || decide (48 ≤ c ∧ c ≤ 57) || decide (c = 45) || decide (c = 46)
def okN (c : UInt8) : Bool := okCh c.toNat
/-- may a node, or an item, be called so? -/
def nodeP (s : List UInt8) : Bool := !(s == []) && decide (s.length ≤ 24) && s.all okN
theorem dec_ok {s : List UInt8} {pos : Nat} (h : pos < s.length) : okCh (Utf8.decode ⟨s.toArray⟩ pos).1 = okN (s[pos]'h) ∧ (okN (s[pos]'h) = true → (Utf8.decode ⟨s.toArray⟩ pos).2 = 1) := by
  have hz : pos < (ByteArray.mk s.toArray).size := h
  have hg := mk_get s pos hz
  by_cases ha : ((ByteArray.mk s.toArray)[pos]'hz).toNat < 128
  · rw [decode_ascii _ pos hz ha, hg]
    exact ⟨rfl, fun _ => rfl⟩
  · have hh := decode_high _ pos hz (by omega)
    rw [hg] at ha
    have e1 : okN (s[pos]'h) = false := by simp [okN, okCh]; omega
    have e2 : okCh (Utf8.decode ⟨s.toArray⟩ pos).1 = false := by simp [okCh]; omega
    rw [e1, e2]
    exact ⟨rfl, fun h => by cases h⟩
theorem all_take {s : List UInt8} {k : Nat} (h : k < s.length) : (s.take (k + 1)).all okN = ((s.take k).all okN && okN (s[k]'h)) := by
  rw [List.take_add_one, List.getElem?_eq_getElem h, List.all_append]
  simp only [Option.toList_some, List.all_cons, List.all_nil, Bool.and_true]
theorem all_not {s : List UInt8} {k : Nat} (h : k < s.length) (hc : okN (s[k]'h) = false) : s.all okN = false := by
  rw [Bool.eq_false_iff]
  intro ha
  rw [List.all_eq_true.1 ha _ (List.getElem_mem h)] at hc
  cases hc
end Go.Proofs.YtmapinediglimaaDoor
/-
  node.Name, walked: its literal, strings.IndexFunc. Condition: the text shorter than the reach.
-/
namespace Go.Proofs.YtmapinediglimaaDoor
set_option linter.unusedVariables false
set_option linter.unusedSimpArgs false
open Go.RowKit
theorem nodeFn_any (c : Nat) (w : World) :
    Calls Tryd.prog 45 #[.int .i32 c] w fun e w' => e = .returned (.bool (!okCh c)) ∧ w = w' := by
  go_enter Tryd.func45, Tryd.ntmps45
  go_wp2
  all_goals
    go_ret
    refine ⟨ret_bool ?_, rfl⟩
    rw [Bool.eq_iff_iff]
    simp [okCh] at *
    try omega
set_option maxHeartbeats 1000000 in
theorem indexFn_any (s : List UInt8) (w : World) (hs : s.length ≤ 140737488351232) :
    Calls Tryd.prog 60 #[.string ⟨s.toArray⟩, .func (.func 45) #[] #[], .bool true] w fun e w' => ∃ i : Int, e = .returned (.int .i64 i) ∧ decide (i < 0) = s.all okN ∧ Below w.heap.size w w' := by
  go_enter Tryd.func60, Tryd.ntmps60
  go_wp2
  go_loopw [7, 8] (fun _ _ wr => ∃ pos : Nat, pos ≤ s.length ∧ wr = w.iter ⟨s.toArray⟩ pos ∧ Hid ((s.take pos).all okN = true)) (fun _ _ w' => s.length - w'.iterPos w.heap.size)
  case atStart => exact ⟨0, by omega, rfl, Lib.hid rfl⟩
  case round =>
    obtain ⟨pos, hle, rfl, hA⟩ := hrel
    by_cases hp : pos < s.length
    · have hnx : ∀ ty, (Instr.next (.pointer (some ⟨w.heap.size, 0, none⟩)) true ty).run Tryd.prog (w.iter ⟨s.toArray⟩ pos) = _ := fun ty => run_next_any w ⟨s.toArray⟩ pos ty hp
      obtain ⟨h1, h2⟩ := dec_ok hp
      have hT := all_take hp
      have hN := fun h => all_not hp h
      rw [hA.out, Bool.true_and] at hT
      generalize okN s[pos] = b at h1 h2 hT hN
      revert hnx h1 h2
      generalize (Utf8.decode ⟨s.toArray⟩ pos).2 = d
      generalize (Utf8.decode ⟨s.toArray⟩ pos).1 = c
      intro hnx h1 h2
      have hF : ∀ W, Calls Tryd.prog 45 #[.int .i32 c] W fun e w' => e = .returned (.bool (!b)) ∧ W = w' := fun W => by rw [← h1]; exact nodeFn_any c W
      replace hF := Lib.hid hF
      replace hT := Lib.hid hT
      replace hN := Lib.hid hN
      replace h1 := Lib.hid h1
      cases b
      · have hN' := Lib.hid (hN.out rfl)
        go_wp2_with (go_at_call 45; refine (hF.out _).mono ?_; rintro e w1 ⟨rfl, rfl⟩)
        go_ret
        exact ⟨_, rfl, by rw [hN'.out]; simp; try omega, (Below.refl _ _).alloc (Nat.le_refl _) _⟩
      · obtain rfl := h2 rfl
        go_wp2_with (go_at_call 45; refine (hF.out _).mono ?_; rintro e w1 ⟨rfl, rfl⟩)
        exact ⟨⟨pos + 1, by omega, rfl, hT⟩, by simp; omega⟩
    · obtain rfl : pos = s.length := by omega
      have hnx : ∀ ty, (Instr.next (.pointer (some ⟨w.heap.size, 0, none⟩)) true ty).run Tryd.prog (w.iter ⟨s.toArray⟩ s.length) = _ := fun ty => run_next_end w ⟨s.toArray⟩ s.length ty hp
      have hA' := hA.out
      rw [List.take_of_length_le (Nat.le_refl _)] at hA'
      replace hA' := Lib.hid hA'
      go_wp2
      go_ret
      exact ⟨_, rfl, by rw [hA'.out]; simp, (Below.refl _ _).alloc (Nat.le_refl _) _⟩
theorem indexF_any (s : List UInt8) (w : World) (hs : s.length ≤ 140737488351232) :
    Calls Tryd.prog 44 #[.string ⟨s.toArray⟩, .func (.func 45) #[] #[]] w fun e w' => ∃ i : Int, e = .returned (.int .i64 i) ∧ decide (i < 0) = s.all okN ∧ Below w.heap.size w w' := by
  go_enter Tryd.func44, Tryd.ntmps44
  go_wp2_with (go_at_call 60; refine (indexFn_any s _ hs).mono ?_; rintro e w1 ⟨i, rfl, hi, hb⟩)
  go_ret
  exact ⟨i, rfl, hi, hb⟩
theorem nodeName_any (s : List UInt8) (w : World) (hs : s.length ≤ 140737488351232) :
    Calls Tryd.prog 36 #[.string ⟨s.toArray⟩] w fun e w' => e = .returned (.bool (nodeP s)) ∧ Below w.heap.size w w' := by
  by_cases h0 : s = []
  · subst h0
    go_enter Tryd.func36, Tryd.ntmps36
    go_wp2
    go_ret
    exact ⟨rfl, Below.refl _ _⟩
  · have e0 : (s == []) = false := by simpa using h0
    by_cases h24 : s.length ≤ 24
    · have e1 : nodeP s = s.all okN := by simp [nodeP, h0, h24]
      have hb : decide ((s.length : Int) ≤ 24) = true := by simp; omega
      rw [e1]
      go_enter Tryd.func36, Tryd.ntmps36
      go_wp2_with (go_at_call 44; refine (indexF_any s _ hs).mono ?_; rintro e w1 ⟨i, rfl, hi, hb'⟩)
      all_goals
        go_ret
        exact ⟨ret_bool (by rw [← hi]), by assumption⟩
    · have e1 : nodeP s = false := by simp [nodeP, h24]
      have hb : decide ((s.length : Int) ≤ 24) = false := by simp; omega
      rw [e1]
      go_enter Tryd.func36, Tryd.ntmps36
      go_wp2
      go_ret
      exact ⟨rfl, Below.refl _ _⟩
end Go.Proofs.YtmapinediglimaaDoor
