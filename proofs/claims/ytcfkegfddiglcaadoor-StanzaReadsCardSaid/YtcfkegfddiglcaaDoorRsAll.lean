/-
  A kind's name, a type of a kind, an address, by the reference (heliographref06.name, typed, address). Condition of the last: the text shorter than the reach.
-/
import Derived.Test.YtcfkegfddiglcaaDoorStPure
import Derived.Test.YtcfkegfddiglcaaDoorJidWalks5
import Derived.Test.YtcfkegfddiglcaaDoorStTok
import Derived.Test.YtcfkegfddiglcaaDoorWrRefElem
import Derived.Test.YtcfkegfddiglcaaDoorStRight
import Derived.Test.YtcfkegfddiglcaaDoorRfAll
import Derived.Test.YtcfkegfddiglcaaDoorStDec
import Derived.Test.YtcfkegfddiglcaaDoorStRef
namespace Go.Proofs.YtcfkegfddiglcaaDoor
set_option linter.unusedVariables false
set_option linter.unusedSimpArgs false
open Go.RowKit Go.MapKept
theorem refStName_any (k : Nat) (hk : k = 1 ∨ k = 2 ∨ k = 3) (w : World) :
    Calls Tryd.prog 13 #[.int .u8 k] w fun e w' => e = .returned (.string ⟨(nameK k).toArray⟩) ∧ w' = w := by
  obtain rfl | rfl | rfl := hk
  all_goals go_enter Tryd.func13, Tryd.ntmps13
  all_goals go_wp2
  all_goals go_ret
  all_goals exact ⟨rfl, rfl⟩
def memL (L : List (List UInt8)) (t : List UInt8) : Bool := L.any (· == t)
theorem memL_cons (x : List UInt8) (L : List (List UInt8)) (t : List UInt8) : memL (x :: L) t = (x == t || memL L t) := rfl
theorem bcommL (x t : List UInt8) : (x == t) = (t == x) := by
  rw [Bool.eq_iff_iff]
  constructor <;> (intro h; rw [beq_iff_eq] at h ⊢; exact h.symm)
def tyList1 : List (List UInt8) := [[103, 101, 116], [115, 101, 116], [114, 101, 115, 117, 108, 116], [101, 114, 114, 111, 114]]
def tyList2 : List (List UInt8) := [([] : List UInt8), [99, 104, 97, 116], [104, 101, 97, 100, 108, 105, 110, 101], [101, 114, 114, 111, 114]]
def tyList3 : List (List UInt8) := [([] : List UInt8), [117, 110, 97, 118, 97, 105, 108, 97, 98, 108, 101], [101, 114, 114, 111, 114]]
theorem typed_list1 (t : List UInt8) : typedB 1 t = memL tyList1 t := by
  show _ = ([103, 101, 116] == t || ([115, 101, 116] == t || ([114, 101, 115, 117, 108, 116] == t || ([101, 114, 114, 111, 114] == t || false))))
  simp only [typedB, resL, errL]
  rw [bcommL [103, 101, 116] t, bcommL [115, 101, 116] t, bcommL [114, 101, 115, 117, 108, 116] t, bcommL [101, 114, 114, 111, 114] t]
  generalize (t == [103, 101, 116]) = a0
  generalize (t == [115, 101, 116]) = a1
  generalize (t == [114, 101, 115, 117, 108, 116]) = a2
  generalize (t == [101, 114, 114, 111, 114]) = a3
  simp
  cases a0 <;> cases a1 <;> cases a2 <;> cases a3 <;> rfl
theorem typed_list2 (t : List UInt8) : typedB 2 t = memL tyList2 t := by
  show _ = (([] : List UInt8) == t || ([99, 104, 97, 116] == t || ([104, 101, 97, 100, 108, 105, 110, 101] == t || ([101, 114, 114, 111, 114] == t || false))))
  simp only [typedB, resL, errL]
  rw [bcommL ([] : List UInt8) t, bcommL [99, 104, 97, 116] t, bcommL [104, 101, 97, 100, 108, 105, 110, 101] t, bcommL [101, 114, 114, 111, 114] t]
  generalize (t == ([] : List UInt8)) = a0
  generalize (t == [99, 104, 97, 116]) = a1
  generalize (t == [104, 101, 97, 100, 108, 105, 110, 101]) = a2
  generalize (t == [101, 114, 114, 111, 114]) = a3
  simp
  cases a0 <;> cases a1 <;> cases a2 <;> cases a3 <;> rfl
theorem typed_list3 (t : List UInt8) : typedB 3 t = memL tyList3 t := by
  show _ = (([] : List UInt8) == t || ([117, 110, 97, 118, 97, 105, 108, 97, 98, 108, 101] == t || ([101, 114, 114, 111, 114] == t || false)))
  simp only [typedB, resL, errL]
  rw [bcommL ([] : List UInt8) t, bcommL [117, 110, 97, 118, 97, 105, 108, 97, 98, 108, 101] t, bcommL [101, 114, 114, 111, 114] t]
  generalize (t == ([] : List UInt8)) = a0
  generalize (t == [117, 110, 97, 118, 97, 105, 108, 97, 98, 108, 101]) = a1
  generalize (t == [101, 114, 114, 111, 114]) = a2
  simp
  cases a0 <;> cases a1 <;> cases a2 <;> rfl
theorem typed_no {k : Nat} (t : List UInt8) (h1 : k ≠ 1) (h2 : k ≠ 2) (h3 : k ≠ 3) : typedB k t = false := by simp [typedB, h1, h2, h3]
set_option maxRecDepth 100000 in
set_option maxHeartbeats 4000000 in
theorem refTyped1_any (t : List UInt8) (w : World) :
    Calls Tryd.prog 29 #[.int .u8 1, .string ⟨t.toArray⟩] w fun e w' => e = .returned (.bool (typedB 1 t)) ∧ Below w.heap.size w w' := by
  rw [typed_list1]
  have hb := Lib.hid (below1 w (.cells #[.string ⟨#[103, 101, 116]⟩, .string ⟨#[115, 101, 116]⟩, .string ⟨#[114, 101, 115, 117, 108, 116]⟩, .string ⟨#[101, 114, 114, 111, 114]⟩] 9))
  generalize hR : memL tyList1 t = R
  replace hR := Lib.hid hR
  go_enter Tryd.func29, Tryd.ntmps29
  go_wp2_with fail
  go_loopw [6] (fun s6 wr => ∃ i : Nat, i ≤ 4 ∧ s6 = .int .i64 i ∧ Hid (memL (tyList1.drop i) t = R) ∧ wr = w.alloc (.cells #[.string ⟨#[103, 101, 116]⟩, .string ⟨#[115, 101, 116]⟩, .string ⟨#[114, 101, 115, 117, 108, 116]⟩, .string ⟨#[101, 114, 114, 111, 114]⟩] 9)) (fun s6 _ => 4 - (intOf s6).toNat)
  case atStart => exact ⟨0, by omega, rfl, hR, rfl⟩
  case round =>
    obtain ⟨i, hi, rfl, hD, rfl⟩ := hrel
    obtain rfl | rfl | rfl | rfl | rfl : i = 0 ∨ i = 1 ∨ i = 2 ∨ i = 3 ∨ i = 4 := by omega
    · rw [show ((0 : Nat) : Int) = 0 from rfl]
      replace hD : Hid (([103, 101, 116] == t || memL (tyList1.drop 1) t) = R) := hD
      by_cases he : t = [103, 101, 116]
      · subst he
        have hRt := Lib.hid (show R = true from by rw [← hD.out]; simp)
        clear hD hR
        go_wp2_with fail
        go_ret
        exact ⟨by rw [hRt.out]; rfl, hb.out⟩
      · have he2 : ([103, 101, 116] == t) = false := by rw [bcommL]; simpa using he
        have hD2 := hD.out
        rw [he2, Bool.false_or] at hD2
        replace hD2 := Lib.hid hD2
        clear hD hR he
        go_wp2_with fail
        exact ⟨⟨1, by omega, rfl, hD2, by first | rfl | trivial⟩, by decide⟩
    · rw [show ((1 : Nat) : Int) = 1 from rfl]
      replace hD : Hid (([115, 101, 116] == t || memL (tyList1.drop 2) t) = R) := hD
      by_cases he : t = [115, 101, 116]
      · subst he
        have hRt := Lib.hid (show R = true from by rw [← hD.out]; simp)
        clear hD hR
        go_wp2_with fail
        go_ret
        exact ⟨by rw [hRt.out]; rfl, hb.out⟩
      · have he2 : ([115, 101, 116] == t) = false := by rw [bcommL]; simpa using he
        have hD2 := hD.out
        rw [he2, Bool.false_or] at hD2
        replace hD2 := Lib.hid hD2
        clear hD hR he
        go_wp2_with fail
        exact ⟨⟨2, by omega, rfl, hD2, by first | rfl | trivial⟩, by decide⟩
    · rw [show ((2 : Nat) : Int) = 2 from rfl]
      replace hD : Hid (([114, 101, 115, 117, 108, 116] == t || memL (tyList1.drop 3) t) = R) := hD
      by_cases he : t = [114, 101, 115, 117, 108, 116]
      · subst he
        have hRt := Lib.hid (show R = true from by rw [← hD.out]; simp)
        clear hD hR
        go_wp2_with fail
        go_ret
        exact ⟨by rw [hRt.out]; rfl, hb.out⟩
      · have he2 : ([114, 101, 115, 117, 108, 116] == t) = false := by rw [bcommL]; simpa using he
        have hD2 := hD.out
        rw [he2, Bool.false_or] at hD2
        replace hD2 := Lib.hid hD2
        clear hD hR he
        go_wp2_with fail
        exact ⟨⟨3, by omega, rfl, hD2, by first | rfl | trivial⟩, by decide⟩
    · rw [show ((3 : Nat) : Int) = 3 from rfl]
      replace hD : Hid (([101, 114, 114, 111, 114] == t || memL (tyList1.drop 4) t) = R) := hD
      by_cases he : t = [101, 114, 114, 111, 114]
      · subst he
        have hRt := Lib.hid (show R = true from by rw [← hD.out]; simp)
        clear hD hR
        go_wp2_with fail
        go_ret
        exact ⟨by rw [hRt.out]; rfl, hb.out⟩
      · have he2 : ([101, 114, 114, 111, 114] == t) = false := by rw [bcommL]; simpa using he
        have hD2 := hD.out
        rw [he2, Bool.false_or] at hD2
        replace hD2 := Lib.hid hD2
        clear hD hR he
        go_wp2_with fail
        exact ⟨⟨4, by omega, rfl, hD2, by first | rfl | trivial⟩, by decide⟩
    · rw [show ((4 : Nat) : Int) = 4 from rfl]
      have hRf := Lib.hid (show R = false from hD.out.symm)
      clear hD hR
      go_wp2_with fail
      go_ret
      exact ⟨by rw [hRf.out]; rfl, hb.out⟩
set_option maxRecDepth 100000 in
set_option maxHeartbeats 4000000 in
theorem refTyped2_any (t : List UInt8) (w : World) :
    Calls Tryd.prog 29 #[.int .u8 2, .string ⟨t.toArray⟩] w fun e w' => e = .returned (.bool (typedB 2 t)) ∧ Below w.heap.size w w' := by
  rw [typed_list2]
  have hb := Lib.hid (below1 w (.cells #[.string ⟨#[]⟩, .string ⟨#[99, 104, 97, 116]⟩, .string ⟨#[104, 101, 97, 100, 108, 105, 110, 101]⟩, .string ⟨#[101, 114, 114, 111, 114]⟩] 9))
  generalize hR : memL tyList2 t = R
  replace hR := Lib.hid hR
  go_enter Tryd.func29, Tryd.ntmps29
  go_wp2_with fail
  go_loopw [6] (fun s6 wr => ∃ i : Nat, i ≤ 4 ∧ s6 = .int .i64 i ∧ Hid (memL (tyList2.drop i) t = R) ∧ wr = w.alloc (.cells #[.string ⟨#[]⟩, .string ⟨#[99, 104, 97, 116]⟩, .string ⟨#[104, 101, 97, 100, 108, 105, 110, 101]⟩, .string ⟨#[101, 114, 114, 111, 114]⟩] 9)) (fun s6 _ => 4 - (intOf s6).toNat)
  case atStart => exact ⟨0, by omega, rfl, hR, rfl⟩
  case round =>
    obtain ⟨i, hi, rfl, hD, rfl⟩ := hrel
    obtain rfl | rfl | rfl | rfl | rfl : i = 0 ∨ i = 1 ∨ i = 2 ∨ i = 3 ∨ i = 4 := by omega
    · rw [show ((0 : Nat) : Int) = 0 from rfl]
      replace hD : Hid ((([] : List UInt8) == t || memL (tyList2.drop 1) t) = R) := hD
      by_cases he : t = ([] : List UInt8)
      · subst he
        have hRt := Lib.hid (show R = true from by rw [← hD.out]; simp)
        clear hD hR
        go_wp2_with fail
        go_ret
        exact ⟨by rw [hRt.out]; rfl, hb.out⟩
      · have he2 : (([] : List UInt8) == t) = false := by rw [bcommL]; simpa using he
        have hD2 := hD.out
        rw [he2, Bool.false_or] at hD2
        replace hD2 := Lib.hid hD2
        clear hD hR he
        go_wp2_with fail
        exact ⟨⟨1, by omega, rfl, hD2, by first | rfl | trivial⟩, by decide⟩
    · rw [show ((1 : Nat) : Int) = 1 from rfl]
      replace hD : Hid (([99, 104, 97, 116] == t || memL (tyList2.drop 2) t) = R) := hD
      by_cases he : t = [99, 104, 97, 116]
      · subst he
        have hRt := Lib.hid (show R = true from by rw [← hD.out]; simp)
        clear hD hR
        go_wp2_with fail
        go_ret
        exact ⟨by rw [hRt.out]; rfl, hb.out⟩
      · have he2 : ([99, 104, 97, 116] == t) = false := by rw [bcommL]; simpa using he
        have hD2 := hD.out
        rw [he2, Bool.false_or] at hD2
        replace hD2 := Lib.hid hD2
        clear hD hR he
        go_wp2_with fail
        exact ⟨⟨2, by omega, rfl, hD2, by first | rfl | trivial⟩, by decide⟩
    · rw [show ((2 : Nat) : Int) = 2 from rfl]
      replace hD : Hid (([104, 101, 97, 100, 108, 105, 110, 101] == t || memL (tyList2.drop 3) t) = R) := hD
      by_cases he : t = [104, 101, 97, 100, 108, 105, 110, 101]
      · subst he
        have hRt := Lib.hid (show R = true from by rw [← hD.out]; simp)
        clear hD hR
        go_wp2_with fail
        go_ret
        exact ⟨by rw [hRt.out]; rfl, hb.out⟩
      · have he2 : ([104, 101, 97, 100, 108, 105, 110, 101] == t) = false := by rw [bcommL]; simpa using he
        have hD2 := hD.out
        rw [he2, Bool.false_or] at hD2
        replace hD2 := Lib.hid hD2
        clear hD hR he
        go_wp2_with fail
        exact ⟨⟨3, by omega, rfl, hD2, by first | rfl | trivial⟩, by decide⟩
    · rw [show ((3 : Nat) : Int) = 3 from rfl]
      replace hD : Hid (([101, 114, 114, 111, 114] == t || memL (tyList2.drop 4) t) = R) := hD
      by_cases he : t = [101, 114, 114, 111, 114]
      · subst he
        have hRt := Lib.hid (show R = true from by rw [← hD.out]; simp)
        clear hD hR
        go_wp2_with fail
        go_ret
        exact ⟨by rw [hRt.out]; rfl, hb.out⟩
      · have he2 : ([101, 114, 114, 111, 114] == t) = false := by rw [bcommL]; simpa using he
        have hD2 := hD.out
        rw [he2, Bool.false_or] at hD2
        replace hD2 := Lib.hid hD2
        clear hD hR he
        go_wp2_with fail
        exact ⟨⟨4, by omega, rfl, hD2, by first | rfl | trivial⟩, by decide⟩
    · rw [show ((4 : Nat) : Int) = 4 from rfl]
      have hRf := Lib.hid (show R = false from hD.out.symm)
      clear hD hR
      go_wp2_with fail
      go_ret
      exact ⟨by rw [hRf.out]; rfl, hb.out⟩
set_option maxRecDepth 100000 in
set_option maxHeartbeats 4000000 in
theorem refTyped3_any (t : List UInt8) (w : World) :
    Calls Tryd.prog 29 #[.int .u8 3, .string ⟨t.toArray⟩] w fun e w' => e = .returned (.bool (typedB 3 t)) ∧ Below w.heap.size w w' := by
  rw [typed_list3]
  have hb := Lib.hid (below1 w (.cells #[.string ⟨#[]⟩, .string ⟨#[117, 110, 97, 118, 97, 105, 108, 97, 98, 108, 101]⟩, .string ⟨#[101, 114, 114, 111, 114]⟩] 9))
  generalize hR : memL tyList3 t = R
  replace hR := Lib.hid hR
  go_enter Tryd.func29, Tryd.ntmps29
  go_wp2_with fail
  go_loopw [6] (fun s6 wr => ∃ i : Nat, i ≤ 3 ∧ s6 = .int .i64 i ∧ Hid (memL (tyList3.drop i) t = R) ∧ wr = w.alloc (.cells #[.string ⟨#[]⟩, .string ⟨#[117, 110, 97, 118, 97, 105, 108, 97, 98, 108, 101]⟩, .string ⟨#[101, 114, 114, 111, 114]⟩] 9)) (fun s6 _ => 3 - (intOf s6).toNat)
  case atStart => exact ⟨0, by omega, rfl, hR, rfl⟩
  case round =>
    obtain ⟨i, hi, rfl, hD, rfl⟩ := hrel
    obtain rfl | rfl | rfl | rfl : i = 0 ∨ i = 1 ∨ i = 2 ∨ i = 3 := by omega
    · rw [show ((0 : Nat) : Int) = 0 from rfl]
      replace hD : Hid ((([] : List UInt8) == t || memL (tyList3.drop 1) t) = R) := hD
      by_cases he : t = ([] : List UInt8)
      · subst he
        have hRt := Lib.hid (show R = true from by rw [← hD.out]; simp)
        clear hD hR
        go_wp2_with fail
        go_ret
        exact ⟨by rw [hRt.out]; rfl, hb.out⟩
      · have he2 : (([] : List UInt8) == t) = false := by rw [bcommL]; simpa using he
        have hD2 := hD.out
        rw [he2, Bool.false_or] at hD2
        replace hD2 := Lib.hid hD2
        clear hD hR he
        go_wp2_with fail
        exact ⟨⟨1, by omega, rfl, hD2, by first | rfl | trivial⟩, by decide⟩
    · rw [show ((1 : Nat) : Int) = 1 from rfl]
      replace hD : Hid (([117, 110, 97, 118, 97, 105, 108, 97, 98, 108, 101] == t || memL (tyList3.drop 2) t) = R) := hD
      by_cases he : t = [117, 110, 97, 118, 97, 105, 108, 97, 98, 108, 101]
      · subst he
        have hRt := Lib.hid (show R = true from by rw [← hD.out]; simp)
        clear hD hR
        go_wp2_with fail
        go_ret
        exact ⟨by rw [hRt.out]; rfl, hb.out⟩
      · have he2 : ([117, 110, 97, 118, 97, 105, 108, 97, 98, 108, 101] == t) = false := by rw [bcommL]; simpa using he
        have hD2 := hD.out
        rw [he2, Bool.false_or] at hD2
        replace hD2 := Lib.hid hD2
        clear hD hR he
        go_wp2_with fail
        exact ⟨⟨2, by omega, rfl, hD2, by first | rfl | trivial⟩, by decide⟩
    · rw [show ((2 : Nat) : Int) = 2 from rfl]
      replace hD : Hid (([101, 114, 114, 111, 114] == t || memL (tyList3.drop 3) t) = R) := hD
      by_cases he : t = [101, 114, 114, 111, 114]
      · subst he
        have hRt := Lib.hid (show R = true from by rw [← hD.out]; simp)
        clear hD hR
        go_wp2_with fail
        go_ret
        exact ⟨by rw [hRt.out]; rfl, hb.out⟩
      · have he2 : ([101, 114, 114, 111, 114] == t) = false := by rw [bcommL]; simpa using he
        have hD2 := hD.out
        rw [he2, Bool.false_or] at hD2
        replace hD2 := Lib.hid hD2
        clear hD hR he
        go_wp2_with fail
        exact ⟨⟨3, by omega, rfl, hD2, by first | rfl | trivial⟩, by decide⟩
    · rw [show ((3 : Nat) : Int) = 3 from rfl]
      have hRf := Lib.hid (show R = false from hD.out.symm)
      clear hD hR
      go_wp2_with fail
      go_ret
      exact ⟨by rw [hRf.out]; rfl, hb.out⟩
theorem refTyped_any (k : Nat) (t : List UInt8) (w : World) :
    Calls Tryd.prog 29 #[.int .u8 k, .string ⟨t.toArray⟩] w fun e w' => e = .returned (.bool (typedB k t)) ∧ Below w.heap.size w w' := by
  by_cases h1 : k = 1
  · subst h1; exact refTyped1_any t w
  by_cases h2 : k = 2
  · subst h2; exact refTyped2_any t w
  by_cases h3 : k = 3
  · subst h3; exact refTyped3_any t w
  rw [typed_no t h1 h2 h3]
  have e1 : ((k : Int) == 1) = false := by rw [beq_eq_false_iff_ne]; omega
  have e2 : ((k : Int) == 2) = false := by rw [beq_eq_false_iff_ne]; omega
  have e3 : ((k : Int) == 3) = false := by rw [beq_eq_false_iff_ne]; omega
  go_enter Tryd.func29, Tryd.ntmps29
  go_wp2_with fail
  go_loopw [6] (fun s6 wr => s6 = .int .i64 0 ∧ wr = w) (fun s6 _ => 0)
  case atStart => exact ⟨rfl, rfl⟩
  case round =>
    obtain ⟨rfl, rfl⟩ := hrel
    go_wp2_with fail
    go_ret
    exact ⟨rfl, Below.refl _ _⟩
theorem refAddress_any (s : List UInt8) (w : World) (hs : s.length ≤ 140737488351232) :
    Calls Tryd.prog 30 #[.string ⟨s.toArray⟩] w fun e w' => e = .returned (.bool (addrOk s)) ∧ Below w.heap.size w w' := by
  have hP := parse0_any s w hs
  unfold parseV at hP
  unfold addrOk
  by_cases h0 : s = []
  · subst h0
    rw [show parseL [] = none by decide +kernel] at hP
    simp only at hP
    replace hP := Lib.hid hP
    go_enter Tryd.func30, Tryd.ntmps30
    go_wp2_with (go_at_call 45; refine hP.out.mono ?_; rintro e w1 ⟨rfl, hb⟩)
    all_goals go_ret
    all_goals exact ⟨by simp, belowT hb (below1 _ _)⟩
  have hs0 : (s == []) = false := by simpa using h0
  cases hp : parseL s with
  | none =>
    rw [hp] at hP
    simp only at hP
    replace hP := Lib.hid hP
    go_enter Tryd.func30, Tryd.ntmps30
    go_wp2_with (go_at_call 45; refine hP.out.mono ?_; rintro e w1 ⟨rfl, hb⟩)
    all_goals go_ret
    all_goals exact ⟨by simp [h0], belowT hb (below1 _ _)⟩
  | some x =>
    obtain ⟨l, d, r⟩ := x
    rw [hp] at hP
    simp only [jidV] at hP
    replace hP := Lib.hid hP
    go_enter Tryd.func30, Tryd.ntmps30
    go_wp2_with (go_at_call 45; refine hP.out.mono ?_; rintro e w1 ⟨rfl, hb⟩)
    all_goals go_ret
    all_goals exact ⟨by simp, belowT hb (below1 _ _)⟩
end Go.Proofs.YtcfkegfddiglcaaDoor
/-
  A stanza's tokens, by the reference (heliographref06.tokens). Conditions: a kind of the three; at most 1000 tokens in the payload.
-/
namespace Go.Proofs.YtcfkegfddiglcaaDoor
set_option linter.unusedVariables false
set_option linter.unusedSimpArgs false
open Go.RowKit Go.MapKept
theorem all_at (z : Sz) (W : World) (b : Nat) (h : W.heap[b]? = some (.cells #[.string ⟨#[116, 121, 112, 101]⟩, .string ⟨z.ty.toArray⟩, .string ⟨#[102, 114, 111, 109]⟩, .string ⟨z.fr.toArray⟩, .string ⟨#[116, 111]⟩, .string ⟨z.tt.toArray⟩, .string ⟨#[105, 100]⟩, .string ⟨z.id.toArray⟩] 39)) (k : Nat) (hk : k < (allA z).length) :
    W.cell? ⟨b, k * 2, none⟩ = some (.string ⟨((allA z)[k]'hk).1.toArray⟩) ∧ W.cell? ⟨b, k * 2 + 1, none⟩ = some (.string ⟨((allA z)[k]'hk).2.toArray⟩) := by
  have h4 : (allA z).length = 4 := rfl
  obtain ⟨hc, -, -⟩ := obj_cells h
  obtain rfl | rfl | rfl | rfl : k = 0 ∨ k = 1 ∨ k = 2 ∨ k = 3 := by omega
  all_goals exact ⟨hc _, hc _⟩
set_option maxRecDepth 100000 in
set_option maxHeartbeats 4000000 in
theorem refTokens_any (z : Sz) (hk : z.k = 1 ∨ z.k = 2 ∨ z.k = 3) (sv : Value) (w : World) (hT : TkS w sv z.pl) (hpl : z.pl.length ≤ 1000) (hat : ∀ tk ∈ z.pl, tk.as.length * 32 ≤ 140737488351232) :
    Calls Tryd.prog 32 #[szV z sv] w fun e w' => ∃ v, e = .returned v ∧ TkS w' v (tokensZ z) ∧ Below w.heap.size w w' := by
  obtain ⟨i0, hi, hz0, hz1, hz2⟩ := info_parts infoA
  have hAll : attrsZ z = fil (allA z) := rfl
  have h4 : (allA z).length = 4 := rfl
  have hCell := fun W b h => all_at z W b h
  obtain ⟨svp, svc, rfl⟩ : ∃ a c, sv = .slice a z.pl.length c := by obtain ⟨a, c, h, -⟩ := hT; exact ⟨a, c, h⟩
  replace hT := Lib.hid hT
  replace hat := Lib.hid hat
  replace hAll := Lib.hid hAll
  unfold szV
  obtain ⟨k, ty, fr, tt, id, pl⟩ := z
  simp only at hCell hpl hk ⊢
  generalize hAA : allA ⟨k, ty, fr, tt, id, pl⟩ = AL at hCell h4
  replace hAA := Lib.hid hAA
  replace hCell := Lib.hid hCell
  replace hk := Lib.hid hk
  go_enter Tryd.func32, Tryd.ntmps32
  go_wp2_with fail
  have hb1 : (w.alloc (.cells #[.int .u8 k, .string ⟨ty.toArray⟩, .string ⟨fr.toArray⟩, .string ⟨tt.toArray⟩, .string ⟨id.toArray⟩, .slice svp pl.length svc] 25)).heap[w.heap.size]? = some (.cells #[.int .u8 k, .string ⟨ty.toArray⟩, .string ⟨fr.toArray⟩, .string ⟨tt.toArray⟩, .string ⟨id.toArray⟩, .slice svp pl.length svc] 25) := (heap_alloc _ _).1
  have hb2 := obj_alloc (o' := .cells #[.string ⟨#[116, 121, 112, 101]⟩, .string ⟨ty.toArray⟩, .string ⟨#[102, 114, 111, 109]⟩, .string ⟨fr.toArray⟩, .string ⟨#[116, 111]⟩, .string ⟨tt.toArray⟩, .string ⟨#[105, 100]⟩, .string ⟨id.toArray⟩] 39) hb1
  have hb3 := (heap_alloc (w.alloc (.cells #[.int .u8 k, .string ⟨ty.toArray⟩, .string ⟨fr.toArray⟩, .string ⟨tt.toArray⟩, .string ⟨id.toArray⟩, .slice svp pl.length svc] 25)) (.cells #[.string ⟨#[116, 121, 112, 101]⟩, .string ⟨ty.toArray⟩, .string ⟨#[102, 114, 111, 109]⟩, .string ⟨fr.toArray⟩, .string ⟨#[116, 111]⟩, .string ⟨tt.toArray⟩, .string ⟨#[105, 100]⟩, .string ⟨id.toArray⟩] 39)).1
  rw [World.size_alloc] at hb3
  replace hb2 := Lib.hid hb2
  replace hb3 := Lib.hid hb3
  have hbw := Lib.hid (belowT (below1 w (.cells #[.int .u8 k, .string ⟨ty.toArray⟩, .string ⟨fr.toArray⟩, .string ⟨tt.toArray⟩, .string ⟨id.toArray⟩, .slice svp pl.length svc] 25)) (below1 _ (.cells #[.string ⟨#[116, 121, 112, 101]⟩, .string ⟨ty.toArray⟩, .string ⟨#[102, 114, 111, 109]⟩, .string ⟨fr.toArray⟩, .string ⟨#[116, 111]⟩, .string ⟨tt.toArray⟩, .string ⟨#[105, 100]⟩, .string ⟨id.toArray⟩] 39)))
  clear hb1
  go_loopw [4, 5] (fun s4 s5 wr => ∃ j : Nat, j ≤ 4 ∧ s5 = .int .i64 j ∧ Hid (wr.ownsRow (w.heap.size + 2) 39 2 s4 (fil (AL.take j)).length (atCells (fil (AL.take j)))) ∧ Hid (wr.heap[w.heap.size]? = some (.cells #[.int .u8 k, .string ⟨ty.toArray⟩, .string ⟨fr.toArray⟩, .string ⟨tt.toArray⟩, .string ⟨id.toArray⟩, .slice svp pl.length svc] 25)) ∧ Hid (wr.heap[w.heap.size + 1]? = some (.cells #[.string ⟨#[116, 121, 112, 101]⟩, .string ⟨ty.toArray⟩, .string ⟨#[102, 114, 111, 109]⟩, .string ⟨fr.toArray⟩, .string ⟨#[116, 111]⟩, .string ⟨tt.toArray⟩, .string ⟨#[105, 100]⟩, .string ⟨id.toArray⟩] 39)) ∧ Hid (Below w.heap.size w wr)) (fun _ s5 _ => 4 - (intOf s5).toNat)
  case atStart =>
    exact ⟨0, by omega, rfl, Lib.hid (ownsA_nil _ _), hb2, hb3, hbw⟩
  case round =>
    clear hb2 hb3 hbw
    obtain ⟨j, hj, rfl, hO, hb2, hb3, hbw⟩ := hrel
    obtain ⟨xc, xf, xl⟩ := obj_cells hb2.out
    obtain ⟨s4p, s4c, rfl⟩ : ∃ p c, u4 = .slice p (fil (AL.take j)).length c := by
      rcases hO.out.2 with ⟨hv, h0⟩ | ⟨g, cap, cur, hv, -⟩
      · exact ⟨none, 0, by rw [hv, h0]⟩
      · exact ⟨_, _, hv⟩
    by_cases hlt : j < 4
    · have hlt' : j < AL.length := by omega
      obtain ⟨y0, y1⟩ := hCell.out _ _ hb3.out j hlt'
      have hfs := fil_snoc hlt'
      generalize AL[j] = q at y0 y1 hfs
      obtain ⟨nm, vl⟩ := q
      simp only at y0 y1 hfs
      have hfl := fil_len AL j
      have hji : (j : Int) < 4 := by omega
      by_cases hv : vl = []
      · subst hv
        rw [if_pos rfl, List.append_nil] at hfs
        replace hfs := Lib.hid hfs
        go_wp2_with fail
        refine ⟨⟨j + 1, by omega, by simp, ?_, hb2, hb3, hbw⟩, by simp [intOf]; omega⟩
        rw [hfs.out]; exact hO
      · have hv1 : (vl == []) = false := by simpa using hv
        rw [if_neg hv] at hfs
        replace hfs := Lib.hid hfs
        have one1 := atCells_one [(nm, vl)]
        have hO1 := hO.out.alloc (.cells #[.string ⟨nm.toArray⟩, .string ⟨vl.toArray⟩] 39)
        have hb2' := Lib.hid (obj_alloc (o' := .cells #[.string ⟨nm.toArray⟩, .string ⟨vl.toArray⟩] 39) hb2.out)
        have hb3' := Lib.hid (obj_alloc (o' := .cells #[.string ⟨nm.toArray⟩, .string ⟨vl.toArray⟩] 39) hb3.out)
        have xl1 : w.heap.size + 1 < wr.heap.size := (obj_cells hb3.out).2.2
        replace hO1 := Lib.hid hO1
        go_wp2_with (at_builtin; refine wpList_append_own _ rfl _ _ 35 rfl (w.heap.size + 2) 39 i0 _ 2 32 Tryd.underlying35 hi hz0 hz1 hz2 rfl (by decide) _ _ _ rfl hO1.out ⟨wr.heap.size, 0, none⟩ 1 1 (atCells [(nm, vl)]) rfl rfl (cells_new wr (atCells [(nm, vl)]) 39) one1 (by unfold maxLen; omega) (by omega) (by simp only [World.size_alloc]; omega) ?_
                     intro v' w2 hO2 hg2 _
                     have hlo := fun k hk => (hO1.out.lt k hk).1
                     have hbw2 := (belowT hbw.out (below1 wr (.cells #[.string ⟨nm.toArray⟩, .string ⟨vl.toArray⟩] 39))).grown hg2 (by simp only [World.size_alloc]; omega) (fun k hk => Nat.le_trans (by omega) (hlo k hk))
                     have hb2w := Lib.hid ((hg2.block w.heap.size (by simp only [World.size_alloc]; omega) (fun e => absurd (hlo _ e.symm) (by omega))).trans hb2'.out)
                     have hb3w := Lib.hid ((hg2.block (w.heap.size + 1) (by simp only [World.size_alloc]; omega) (fun e => absurd (hlo _ e.symm) (by omega))).trans hb3'.out)
                     replace hO2 := Lib.hid hO2
                     replace hbw2 := Lib.hid hbw2)
        refine ⟨⟨j + 1, by omega, by simp, ?_, hb2w, hb3w, hbw2⟩, by simp [intOf]; omega⟩
        rw [hfs.out, List.length_append, atCells_app]
        exact hO2
    · obtain rfl : j = 4 := by omega
      have e4 : fil (AL.take 4) = attrsZ ⟨k, ty, fr, tt, id, pl⟩ := by rw [hAll.out, hAA.out, List.take_of_length_le (by omega)]
      have hX := (owns_at hO.out rfl).at
      have hal := attrsZ_len ⟨k, ty, fr, tt, id, pl⟩
      have hT1 : TkS wr (.slice svp pl.length svc) pl := hT.out.below hbw.out
      generalize hsv4 : Value.slice s4p (fil (AL.take 4)).length s4c = v4 at hX ⊢
      rw [e4] at hX
      have hA0 := hX
      clear hAll hAA hO e4
      have hE : ∀ W, Below wr.heap.size wr W → Calls Tryd.prog 14 #[.string ⟨(nameK k).toArray⟩, v4, .slice svp pl.length svc] W fun e w' => ∃ v, e = .returned v ∧ TkS w' v (tokensZ ⟨k, ty, fr, tt, id, pl⟩) ∧ Below W.heap.size W w' := fun W hb =>
        refElementS_any (nameK k) _ _ (attrsZ ⟨k, ty, fr, tt, id, pl⟩) pl W (hA0.below hb) (by omega) (hT1.below hb) hpl hat.out
      have c0 : wr.cell? ⟨w.heap.size, 0, none⟩ = some (.int .u8 (k : Int)) := xc 0
      have c5 : wr.cell? ⟨w.heap.size, 5, none⟩ = some (.slice svp pl.length svc) := xc 5
      obtain ⟨v4p, v4n, v4c, rfl⟩ : ∃ a n c, v4 = .slice a n c := ⟨_, _, _, hsv4.symm⟩
      clear hsv4
      replace hA0 := Lib.hid hA0
      replace hT1 := Lib.hid hT1
      replace hX := Lib.hid hX
      replace hE := Lib.hid hE
      have hBr := Below.refl wr.heap.size wr
      go_wp2_with fail
      go_region_held3 (fun W => W.cell? ⟨w.heap.size, 0, none⟩ = some (.int .u8 (k : Int)) ∧ W.cell? ⟨w.heap.size, 5, none⟩ = some (.slice svp pl.length svc) ∧ Below wr.heap.size wr W)
        (first | assumption | exact ⟨c0, c5, hBr.drew⟩ | exact keepTk (by assumption) xl (by assumption))
        (first
          | (go_at_call 13; refine (refStName_any _ hk.out _).mono ?_; rintro e w1 ⟨rfl, rfl⟩)
          | (go_at_call 14; refine (hE.out _ (by first | assumption | exact hBr.drew)).mono ?_; rintro e w1 ⟨v, rfl, hv, hb⟩))
      all_goals go_wp2_with fail
      all_goals go_ret
      all_goals exact ⟨_, rfl, hv, belowT (hbw.out.drew) hb⟩
end Go.Proofs.YtcfkegfddiglcaaDoor
/-
  Whether a stanza is right, by the reference (heliographref06.Right). Conditions: no text beyond the reach, at most 1000 tokens; the library's tables are as they were laid.
-/
namespace Go.Proofs.YtcfkegfddiglcaaDoor
set_option linter.unusedVariables false
set_option linter.unusedSimpArgs false
open Go.RowKit Go.MapKept
theorem rightZ_cut (z : Sz) : rightZ z = (decide (z.pl.length ≤ 64) && typedB z.k z.ty && addrOk z.fr && addrOk z.tt && (decide (z.id.length ≤ 512) && charsP z.id && !(z.k == 1 && z.id == []) && wholeL (tokensZ z))) := by
  unfold rightZ
  generalize addrOk z.fr = a
  generalize addrOk z.tt = b
  generalize typedB z.k z.ty = c
  generalize (z.k == 1 && z.id == []) = d
  generalize decide (z.id.length ≤ 512) = e
  generalize charsP z.id = f
  generalize decide (z.pl.length ≤ 64) = g
  generalize wholeL (tokensZ z) = h
  cases a <;> cases b <;> cases c <;> cases d <;> cases e <;> cases f <;> cases g <;> cases h <;> rfl
set_option maxRecDepth 100000 in
set_option maxHeartbeats 8000000 in
theorem ref06Right_any (z : Sz) (sv : Value) (w : World) (hT : TkS w sv z.pl) (hs : z.small) (hU : U8T w) :
    Calls Tryd.prog 15 #[szV z sv] w fun e w' => e = .returned (.bool (rightZ z)) ∧ Below w.heap.size w w' := by
  have hsm := tokens_small hs
  have hcut := rightZ_cut z
  obtain ⟨svp, svc, rfl⟩ : ∃ a c, sv = .slice a z.pl.length c := by obtain ⟨a, c, h, -⟩ := hT; exact ⟨a, c, h⟩
  have hAf : Hid (∀ W, Calls Tryd.prog 30 #[.string ⟨z.fr.toArray⟩] W fun e w' => e = .returned (.bool (addrOk z.fr)) ∧ Below W.heap.size W w') := Lib.hid fun W => refAddress_any z.fr W hs.1.2.1
  have hAt : Hid (∀ W, Calls Tryd.prog 30 #[.string ⟨z.tt.toArray⟩] W fun e w' => e = .returned (.bool (addrOk z.tt)) ∧ Below W.heap.size W w') := Lib.hid fun W => refAddress_any z.tt W hs.1.2.2.1
  have hTy : Hid (∀ W, Calls Tryd.prog 29 #[.int .u8 z.k, .string ⟨z.ty.toArray⟩] W fun e w' => e = .returned (.bool (typedB z.k z.ty)) ∧ Below W.heap.size W w') := Lib.hid fun W => refTyped_any z.k z.ty W
  have hCh : Hid (∀ W, Below w.heap.size w W → Calls Tryd.prog 31 #[.string ⟨z.id.toArray⟩] W fun e w' => e = .returned (.bool (charsP z.id)) ∧ Below W.heap.size W w') := Lib.hid fun W hb => refChars_any z.id W hs.1.2.2.2 (hU.below hb)
  have hTk : Hid (typedB z.k z.ty = true → ∀ W, Below w.heap.size w W → Calls Tryd.prog 32 #[.agg #[.int .u8 z.k, .string ⟨z.ty.toArray⟩, .string ⟨z.fr.toArray⟩, .string ⟨z.tt.toArray⟩, .string ⟨z.id.toArray⟩, .slice svp z.pl.length svc]] W fun e w' => ∃ v, e = .returned v ∧ TkS w' v (tokensZ z) ∧ Below W.heap.size W w') := Lib.hid fun ht W hb => refTokens_any z (typed_kind ht) _ W (hT.below hb) hs.2.1 (fun tk h => (hs.2.2 tk h).2)
  have hWh : Hid (∀ v W, Below w.heap.size w W → TkS W v (tokensZ z) → Calls Tryd.prog 12 #[v] W fun e w' => e = .returned (.bool (wholeL (tokensZ z))) ∧ Below W.heap.size W w') := Lib.hid fun v W hb h => refWhole_any v (tokensZ z) W h hsm (hU.below hb)
  rw [hcut]
  clear hcut
  replace hT := Lib.hid hT
  replace hsm := Lib.hid hsm
  replace hs := Lib.hid hs
  replace hU := Lib.hid hU
  unfold szV
  obtain ⟨k, ty, fr, tt, id, pl⟩ := z
  simp only at hAf hAt hTy hCh hTk hWh ⊢
  generalize addrOk fr = bf at hAf ⊢
  generalize addrOk tt = bt at hAt ⊢
  generalize typedB k ty = bk at hTy hTk ⊢
  generalize charsP id = bc at hCh ⊢
  generalize tokensZ ⟨k, ty, fr, tt, id, pl⟩ = TL at hTk hWh hsm ⊢
  generalize wholeL TL = bw at hWh ⊢
  -- WALK
  have hO := Lib.hid (heap_alloc w (.cells #[.int .u8 k, .string ⟨ty.toArray⟩, .string ⟨fr.toArray⟩, .string ⟨tt.toArray⟩, .string ⟨id.toArray⟩, .slice svp pl.length svc] 25)).1
  have hB := Lib.hid (below1 w (.cells #[.int .u8 k, .string ⟨ty.toArray⟩, .string ⟨fr.toArray⟩, .string ⟨tt.toArray⟩, .string ⟨id.toArray⟩, .slice svp pl.length svc] 25))
  obtain ⟨xc, xf, xl⟩ := obj_cells hO.out
  have tok1 := Lib.hid True.intro
  have hTrue := True.intro
  by_cases h64 : pl.length ≤ 64
  rotate_left
  · have h64b : decide (64 < (pl.length : Int)) = true := by simp; omega
    go_enter Tryd.func15, Tryd.ntmps15
    go_wp2_with (first
      | (go_at_call 29; refine (hTy.out _).mono ?_; rintro e wx ⟨rfl, hb⟩; replace hO := Lib.hid ((hb.block _ xl).trans hO.out); replace hB := Lib.hid (belowT hB.out hb); clear xc xf xl; clear hb; obtain ⟨xc, xf, xl⟩ := obj_cells hO.out)
      | (have m0 := tok1.out; go_at_call 30; refine (hAf.out _).mono ?_; rintro e wx ⟨rfl, hb⟩; replace hO := Lib.hid ((hb.block _ xl).trans hO.out); replace hB := Lib.hid (belowT hB.out hb); clear xc xf xl; clear hb; obtain ⟨xc, xf, xl⟩ := obj_cells hO.out; clear tok1 m0)
      | (go_at_call 30; refine (hAt.out _).mono ?_; rintro e wx ⟨rfl, hb⟩; replace hO := Lib.hid ((hb.block _ xl).trans hO.out); replace hB := Lib.hid (belowT hB.out hb); clear xc xf xl; clear hb; obtain ⟨xc, xf, xl⟩ := obj_cells hO.out)
      | (go_at_call 31; refine (hCh.out _ hB.out).mono ?_; rintro e wx ⟨rfl, hb⟩; replace hO := Lib.hid ((hb.block _ xl).trans hO.out); replace hB := Lib.hid (belowT hB.out hb); clear xc xf xl; clear hb; obtain ⟨xc, xf, xl⟩ := obj_cells hO.out)
      | (go_at_call 32; go_loud (refine (hTk.out _ hB.out).mono ?_; rintro e wx ⟨v, rfl, hv, hb⟩; replace hv := Lib.hid hv; replace hO := Lib.hid ((hb.block _ xl).trans hO.out); replace hB := Lib.hid (belowT hB.out hb); clear xc xf xl; clear hb; obtain ⟨xc, xf, xl⟩ := obj_cells hO.out))
      | (go_at_call 12; refine (hWh.out _ _ hB.out hv.out).mono ?_; rintro e wx ⟨rfl, hb⟩; replace hO := Lib.hid ((hb.block _ xl).trans hO.out); replace hB := Lib.hid (belowT hB.out hb); clear xc xf xl; clear hb; obtain ⟨xc, xf, xl⟩ := obj_cells hO.out))
    go_ret
    exact ⟨by simp [*], hB.out⟩
  have h64b : decide (64 < (pl.length : Int)) = false := by simp; omega
  cases bk
  · go_enter Tryd.func15, Tryd.ntmps15
    go_wp2_with (first
      | (go_at_call 29; refine (hTy.out _).mono ?_; rintro e wx ⟨rfl, hb⟩; replace hO := Lib.hid ((hb.block _ xl).trans hO.out); replace hB := Lib.hid (belowT hB.out hb); clear xc xf xl; clear hb; obtain ⟨xc, xf, xl⟩ := obj_cells hO.out)
      | (have m0 := tok1.out; go_at_call 30; refine (hAf.out _).mono ?_; rintro e wx ⟨rfl, hb⟩; replace hO := Lib.hid ((hb.block _ xl).trans hO.out); replace hB := Lib.hid (belowT hB.out hb); clear xc xf xl; clear hb; obtain ⟨xc, xf, xl⟩ := obj_cells hO.out; clear tok1 m0)
      | (go_at_call 30; refine (hAt.out _).mono ?_; rintro e wx ⟨rfl, hb⟩; replace hO := Lib.hid ((hb.block _ xl).trans hO.out); replace hB := Lib.hid (belowT hB.out hb); clear xc xf xl; clear hb; obtain ⟨xc, xf, xl⟩ := obj_cells hO.out)
      | (go_at_call 31; refine (hCh.out _ hB.out).mono ?_; rintro e wx ⟨rfl, hb⟩; replace hO := Lib.hid ((hb.block _ xl).trans hO.out); replace hB := Lib.hid (belowT hB.out hb); clear xc xf xl; clear hb; obtain ⟨xc, xf, xl⟩ := obj_cells hO.out)
      | (go_at_call 32; go_loud (refine (hTk.out _ hB.out).mono ?_; rintro e wx ⟨v, rfl, hv, hb⟩; replace hv := Lib.hid hv; replace hO := Lib.hid ((hb.block _ xl).trans hO.out); replace hB := Lib.hid (belowT hB.out hb); clear xc xf xl; clear hb; obtain ⟨xc, xf, xl⟩ := obj_cells hO.out))
      | (go_at_call 12; refine (hWh.out _ _ hB.out hv.out).mono ?_; rintro e wx ⟨rfl, hb⟩; replace hO := Lib.hid ((hb.block _ xl).trans hO.out); replace hB := Lib.hid (belowT hB.out hb); clear xc xf xl; clear hb; obtain ⟨xc, xf, xl⟩ := obj_cells hO.out))
    go_ret
    exact ⟨by simp [*], hB.out⟩
  replace hTk := Lib.hid (hTk.out rfl)
  cases bf
  · go_enter Tryd.func15, Tryd.ntmps15
    go_wp2_with (first
      | (go_at_call 29; refine (hTy.out _).mono ?_; rintro e wx ⟨rfl, hb⟩; replace hO := Lib.hid ((hb.block _ xl).trans hO.out); replace hB := Lib.hid (belowT hB.out hb); clear xc xf xl; clear hb; obtain ⟨xc, xf, xl⟩ := obj_cells hO.out)
      | (have m0 := tok1.out; go_at_call 30; refine (hAf.out _).mono ?_; rintro e wx ⟨rfl, hb⟩; replace hO := Lib.hid ((hb.block _ xl).trans hO.out); replace hB := Lib.hid (belowT hB.out hb); clear xc xf xl; clear hb; obtain ⟨xc, xf, xl⟩ := obj_cells hO.out; clear tok1 m0)
      | (go_at_call 30; refine (hAt.out _).mono ?_; rintro e wx ⟨rfl, hb⟩; replace hO := Lib.hid ((hb.block _ xl).trans hO.out); replace hB := Lib.hid (belowT hB.out hb); clear xc xf xl; clear hb; obtain ⟨xc, xf, xl⟩ := obj_cells hO.out)
      | (go_at_call 31; refine (hCh.out _ hB.out).mono ?_; rintro e wx ⟨rfl, hb⟩; replace hO := Lib.hid ((hb.block _ xl).trans hO.out); replace hB := Lib.hid (belowT hB.out hb); clear xc xf xl; clear hb; obtain ⟨xc, xf, xl⟩ := obj_cells hO.out)
      | (go_at_call 32; go_loud (refine (hTk.out _ hB.out).mono ?_; rintro e wx ⟨v, rfl, hv, hb⟩; replace hv := Lib.hid hv; replace hO := Lib.hid ((hb.block _ xl).trans hO.out); replace hB := Lib.hid (belowT hB.out hb); clear xc xf xl; clear hb; obtain ⟨xc, xf, xl⟩ := obj_cells hO.out))
      | (go_at_call 12; refine (hWh.out _ _ hB.out hv.out).mono ?_; rintro e wx ⟨rfl, hb⟩; replace hO := Lib.hid ((hb.block _ xl).trans hO.out); replace hB := Lib.hid (belowT hB.out hb); clear xc xf xl; clear hb; obtain ⟨xc, xf, xl⟩ := obj_cells hO.out))
    go_ret
    exact ⟨by simp [*], hB.out⟩
  cases bt
  · go_enter Tryd.func15, Tryd.ntmps15
    go_wp2_with (first
      | (go_at_call 29; refine (hTy.out _).mono ?_; rintro e wx ⟨rfl, hb⟩; replace hO := Lib.hid ((hb.block _ xl).trans hO.out); replace hB := Lib.hid (belowT hB.out hb); clear xc xf xl; clear hb; obtain ⟨xc, xf, xl⟩ := obj_cells hO.out)
      | (have m0 := tok1.out; go_at_call 30; refine (hAf.out _).mono ?_; rintro e wx ⟨rfl, hb⟩; replace hO := Lib.hid ((hb.block _ xl).trans hO.out); replace hB := Lib.hid (belowT hB.out hb); clear xc xf xl; clear hb; obtain ⟨xc, xf, xl⟩ := obj_cells hO.out; clear tok1 m0)
      | (go_at_call 30; refine (hAt.out _).mono ?_; rintro e wx ⟨rfl, hb⟩; replace hO := Lib.hid ((hb.block _ xl).trans hO.out); replace hB := Lib.hid (belowT hB.out hb); clear xc xf xl; clear hb; obtain ⟨xc, xf, xl⟩ := obj_cells hO.out)
      | (go_at_call 31; refine (hCh.out _ hB.out).mono ?_; rintro e wx ⟨rfl, hb⟩; replace hO := Lib.hid ((hb.block _ xl).trans hO.out); replace hB := Lib.hid (belowT hB.out hb); clear xc xf xl; clear hb; obtain ⟨xc, xf, xl⟩ := obj_cells hO.out)
      | (go_at_call 32; go_loud (refine (hTk.out _ hB.out).mono ?_; rintro e wx ⟨v, rfl, hv, hb⟩; replace hv := Lib.hid hv; replace hO := Lib.hid ((hb.block _ xl).trans hO.out); replace hB := Lib.hid (belowT hB.out hb); clear xc xf xl; clear hb; obtain ⟨xc, xf, xl⟩ := obj_cells hO.out))
      | (go_at_call 12; refine (hWh.out _ _ hB.out hv.out).mono ?_; rintro e wx ⟨rfl, hb⟩; replace hO := Lib.hid ((hb.block _ xl).trans hO.out); replace hB := Lib.hid (belowT hB.out hb); clear xc xf xl; clear hb; obtain ⟨xc, xf, xl⟩ := obj_cells hO.out))
    go_ret
    exact ⟨by simp [*], hB.out⟩
  by_cases h512 : id.length ≤ 512
  rotate_left
  · have h512b : decide ((id.length : Int) ≤ 512) = false := by simp; omega
    go_enter Tryd.func15, Tryd.ntmps15
    go_wp2_with (first
      | (go_at_call 29; refine (hTy.out _).mono ?_; rintro e wx ⟨rfl, hb⟩; replace hO := Lib.hid ((hb.block _ xl).trans hO.out); replace hB := Lib.hid (belowT hB.out hb); clear xc xf xl; clear hb; obtain ⟨xc, xf, xl⟩ := obj_cells hO.out)
      | (have m0 := tok1.out; go_at_call 30; refine (hAf.out _).mono ?_; rintro e wx ⟨rfl, hb⟩; replace hO := Lib.hid ((hb.block _ xl).trans hO.out); replace hB := Lib.hid (belowT hB.out hb); clear xc xf xl; clear hb; obtain ⟨xc, xf, xl⟩ := obj_cells hO.out; clear tok1 m0)
      | (go_at_call 30; refine (hAt.out _).mono ?_; rintro e wx ⟨rfl, hb⟩; replace hO := Lib.hid ((hb.block _ xl).trans hO.out); replace hB := Lib.hid (belowT hB.out hb); clear xc xf xl; clear hb; obtain ⟨xc, xf, xl⟩ := obj_cells hO.out)
      | (go_at_call 31; refine (hCh.out _ hB.out).mono ?_; rintro e wx ⟨rfl, hb⟩; replace hO := Lib.hid ((hb.block _ xl).trans hO.out); replace hB := Lib.hid (belowT hB.out hb); clear xc xf xl; clear hb; obtain ⟨xc, xf, xl⟩ := obj_cells hO.out)
      | (go_at_call 32; go_loud (refine (hTk.out _ hB.out).mono ?_; rintro e wx ⟨v, rfl, hv, hb⟩; replace hv := Lib.hid hv; replace hO := Lib.hid ((hb.block _ xl).trans hO.out); replace hB := Lib.hid (belowT hB.out hb); clear xc xf xl; clear hb; obtain ⟨xc, xf, xl⟩ := obj_cells hO.out))
      | (go_at_call 12; refine (hWh.out _ _ hB.out hv.out).mono ?_; rintro e wx ⟨rfl, hb⟩; replace hO := Lib.hid ((hb.block _ xl).trans hO.out); replace hB := Lib.hid (belowT hB.out hb); clear xc xf xl; clear hb; obtain ⟨xc, xf, xl⟩ := obj_cells hO.out))
    go_ret
    exact ⟨by simp [*], hB.out⟩
  have h512b : decide ((id.length : Int) ≤ 512) = true := by simp; omega
  cases bc
  · go_enter Tryd.func15, Tryd.ntmps15
    go_wp2_with (first
      | (go_at_call 29; refine (hTy.out _).mono ?_; rintro e wx ⟨rfl, hb⟩; replace hO := Lib.hid ((hb.block _ xl).trans hO.out); replace hB := Lib.hid (belowT hB.out hb); clear xc xf xl; clear hb; obtain ⟨xc, xf, xl⟩ := obj_cells hO.out)
      | (have m0 := tok1.out; go_at_call 30; refine (hAf.out _).mono ?_; rintro e wx ⟨rfl, hb⟩; replace hO := Lib.hid ((hb.block _ xl).trans hO.out); replace hB := Lib.hid (belowT hB.out hb); clear xc xf xl; clear hb; obtain ⟨xc, xf, xl⟩ := obj_cells hO.out; clear tok1 m0)
      | (go_at_call 30; refine (hAt.out _).mono ?_; rintro e wx ⟨rfl, hb⟩; replace hO := Lib.hid ((hb.block _ xl).trans hO.out); replace hB := Lib.hid (belowT hB.out hb); clear xc xf xl; clear hb; obtain ⟨xc, xf, xl⟩ := obj_cells hO.out)
      | (go_at_call 31; refine (hCh.out _ hB.out).mono ?_; rintro e wx ⟨rfl, hb⟩; replace hO := Lib.hid ((hb.block _ xl).trans hO.out); replace hB := Lib.hid (belowT hB.out hb); clear xc xf xl; clear hb; obtain ⟨xc, xf, xl⟩ := obj_cells hO.out)
      | (go_at_call 32; go_loud (refine (hTk.out _ hB.out).mono ?_; rintro e wx ⟨v, rfl, hv, hb⟩; replace hv := Lib.hid hv; replace hO := Lib.hid ((hb.block _ xl).trans hO.out); replace hB := Lib.hid (belowT hB.out hb); clear xc xf xl; clear hb; obtain ⟨xc, xf, xl⟩ := obj_cells hO.out))
      | (go_at_call 12; refine (hWh.out _ _ hB.out hv.out).mono ?_; rintro e wx ⟨rfl, hb⟩; replace hO := Lib.hid ((hb.block _ xl).trans hO.out); replace hB := Lib.hid (belowT hB.out hb); clear xc xf xl; clear hb; obtain ⟨xc, xf, xl⟩ := obj_cells hO.out))
    go_ret
    exact ⟨by simp [*], hB.out⟩
  by_cases hid : id = []
  · subst hid
    have hid1 := True.intro
    by_cases hk1 : k = 1
    · have hk1b : ((k : Int) != 1) = false := by rw [bne, show ((k : Int) == 1) = true by rw [beq_iff_eq]; omega]; rfl
      have hkN := Lib.hid (show (k == 1) = true by simpa using hk1)
      clear hk1
      go_enter Tryd.func15, Tryd.ntmps15
      go_wp2_with (first
        | (go_at_call 29; refine (hTy.out _).mono ?_; rintro e wx ⟨rfl, hb⟩; replace hO := Lib.hid ((hb.block _ xl).trans hO.out); replace hB := Lib.hid (belowT hB.out hb); clear xc xf xl; clear hb; obtain ⟨xc, xf, xl⟩ := obj_cells hO.out)
        | (have m0 := tok1.out; go_at_call 30; refine (hAf.out _).mono ?_; rintro e wx ⟨rfl, hb⟩; replace hO := Lib.hid ((hb.block _ xl).trans hO.out); replace hB := Lib.hid (belowT hB.out hb); clear xc xf xl; clear hb; obtain ⟨xc, xf, xl⟩ := obj_cells hO.out; clear tok1 m0)
        | (go_at_call 30; refine (hAt.out _).mono ?_; rintro e wx ⟨rfl, hb⟩; replace hO := Lib.hid ((hb.block _ xl).trans hO.out); replace hB := Lib.hid (belowT hB.out hb); clear xc xf xl; clear hb; obtain ⟨xc, xf, xl⟩ := obj_cells hO.out)
        | (go_at_call 31; refine (hCh.out _ hB.out).mono ?_; rintro e wx ⟨rfl, hb⟩; replace hO := Lib.hid ((hb.block _ xl).trans hO.out); replace hB := Lib.hid (belowT hB.out hb); clear xc xf xl; clear hb; obtain ⟨xc, xf, xl⟩ := obj_cells hO.out)
        | (go_at_call 32; go_loud (refine (hTk.out _ hB.out).mono ?_; rintro e wx ⟨v, rfl, hv, hb⟩; replace hv := Lib.hid hv; replace hO := Lib.hid ((hb.block _ xl).trans hO.out); replace hB := Lib.hid (belowT hB.out hb); clear xc xf xl; clear hb; obtain ⟨xc, xf, xl⟩ := obj_cells hO.out))
        | (go_at_call 12; refine (hWh.out _ _ hB.out hv.out).mono ?_; rintro e wx ⟨rfl, hb⟩; replace hO := Lib.hid ((hb.block _ xl).trans hO.out); replace hB := Lib.hid (belowT hB.out hb); clear xc xf xl; clear hb; obtain ⟨xc, xf, xl⟩ := obj_cells hO.out))
      go_ret
      exact ⟨by simp [hkN.out, *], hB.out⟩
    · have hk1b : ((k : Int) != 1) = true := by rw [bne, show ((k : Int) == 1) = false by rw [beq_eq_false_iff_ne]; omega]; rfl
      have hkN := Lib.hid (show (k == 1) = false by simpa using hk1)
      clear hk1
      go_enter Tryd.func15, Tryd.ntmps15
      go_wp2_with (first
        | (go_at_call 29; refine (hTy.out _).mono ?_; rintro e wx ⟨rfl, hb⟩; replace hO := Lib.hid ((hb.block _ xl).trans hO.out); replace hB := Lib.hid (belowT hB.out hb); clear xc xf xl; clear hb; obtain ⟨xc, xf, xl⟩ := obj_cells hO.out)
        | (have m0 := tok1.out; go_at_call 30; refine (hAf.out _).mono ?_; rintro e wx ⟨rfl, hb⟩; replace hO := Lib.hid ((hb.block _ xl).trans hO.out); replace hB := Lib.hid (belowT hB.out hb); clear xc xf xl; clear hb; obtain ⟨xc, xf, xl⟩ := obj_cells hO.out; clear tok1 m0)
        | (go_at_call 30; refine (hAt.out _).mono ?_; rintro e wx ⟨rfl, hb⟩; replace hO := Lib.hid ((hb.block _ xl).trans hO.out); replace hB := Lib.hid (belowT hB.out hb); clear xc xf xl; clear hb; obtain ⟨xc, xf, xl⟩ := obj_cells hO.out)
        | (go_at_call 31; refine (hCh.out _ hB.out).mono ?_; rintro e wx ⟨rfl, hb⟩; replace hO := Lib.hid ((hb.block _ xl).trans hO.out); replace hB := Lib.hid (belowT hB.out hb); clear xc xf xl; clear hb; obtain ⟨xc, xf, xl⟩ := obj_cells hO.out)
        | (go_at_call 32; go_loud (refine (hTk.out _ hB.out).mono ?_; rintro e wx ⟨v, rfl, hv, hb⟩; replace hv := Lib.hid hv; replace hO := Lib.hid ((hb.block _ xl).trans hO.out); replace hB := Lib.hid (belowT hB.out hb); clear xc xf xl; clear hb; obtain ⟨xc, xf, xl⟩ := obj_cells hO.out))
        | (go_at_call 12; refine (hWh.out _ _ hB.out hv.out).mono ?_; rintro e wx ⟨rfl, hb⟩; replace hO := Lib.hid ((hb.block _ xl).trans hO.out); replace hB := Lib.hid (belowT hB.out hb); clear xc xf xl; clear hb; obtain ⟨xc, xf, xl⟩ := obj_cells hO.out))
      go_ret
      exact ⟨by simp [hkN.out, *], hB.out⟩
  · have hidb : (id == []) = false := by simpa using hid
    go_enter Tryd.func15, Tryd.ntmps15
    go_wp2_with (first
      | (go_at_call 29; refine (hTy.out _).mono ?_; rintro e wx ⟨rfl, hb⟩; replace hO := Lib.hid ((hb.block _ xl).trans hO.out); replace hB := Lib.hid (belowT hB.out hb); clear xc xf xl; clear hb; obtain ⟨xc, xf, xl⟩ := obj_cells hO.out)
      | (have m0 := tok1.out; go_at_call 30; refine (hAf.out _).mono ?_; rintro e wx ⟨rfl, hb⟩; replace hO := Lib.hid ((hb.block _ xl).trans hO.out); replace hB := Lib.hid (belowT hB.out hb); clear xc xf xl; clear hb; obtain ⟨xc, xf, xl⟩ := obj_cells hO.out; clear tok1 m0)
      | (go_at_call 30; refine (hAt.out _).mono ?_; rintro e wx ⟨rfl, hb⟩; replace hO := Lib.hid ((hb.block _ xl).trans hO.out); replace hB := Lib.hid (belowT hB.out hb); clear xc xf xl; clear hb; obtain ⟨xc, xf, xl⟩ := obj_cells hO.out)
      | (go_at_call 31; refine (hCh.out _ hB.out).mono ?_; rintro e wx ⟨rfl, hb⟩; replace hO := Lib.hid ((hb.block _ xl).trans hO.out); replace hB := Lib.hid (belowT hB.out hb); clear xc xf xl; clear hb; obtain ⟨xc, xf, xl⟩ := obj_cells hO.out)
      | (go_at_call 32; go_loud (refine (hTk.out _ hB.out).mono ?_; rintro e wx ⟨v, rfl, hv, hb⟩; replace hv := Lib.hid hv; replace hO := Lib.hid ((hb.block _ xl).trans hO.out); replace hB := Lib.hid (belowT hB.out hb); clear xc xf xl; clear hb; obtain ⟨xc, xf, xl⟩ := obj_cells hO.out))
      | (go_at_call 12; refine (hWh.out _ _ hB.out hv.out).mono ?_; rintro e wx ⟨rfl, hb⟩; replace hO := Lib.hid ((hb.block _ xl).trans hO.out); replace hB := Lib.hid (belowT hB.out hb); clear xc xf xl; clear hb; obtain ⟨xc, xf, xl⟩ := obj_cells hO.out))
    go_ret
    exact ⟨by simp [*], hB.out⟩
end Go.Proofs.YtcfkegfddiglcaaDoor
/-
  What tokens say, by the reference (heliographref06.Decode). Conditions: no text beyond the reach, at most 1000 tokens; the library's tables are as they were laid.
-/
namespace Go.Proofs.YtcfkegfddiglcaaDoor
set_option linter.unusedVariables false
set_option linter.unusedSimpArgs false
open Go.RowKit Go.MapKept
theorem wrapU (n : Nat) (h : n ≤ 100) : IntKind.u8.wrap ((n : Int) + 1) = (n : Int) + 1 := by rw [IntKind.wrap_u8]; omega
set_option maxRecDepth 100000 in
set_option maxHeartbeats 8000000 in
theorem ref06Decode_any (v : Value) (l : List Tk) (w : World) (h : TkS w v l) (hs : ∀ tk ∈ l, tk.small ∧ tk.as.length * 32 ≤ 140737488351232) (hl : l.length ≤ 1000) (hU : U8T w) :
    Calls Tryd.prog 5 #[v] w fun e w' => ∃ sv z, e = .returned (.tuple #[szV z sv, .int .i64 (errE (decZ l).isSome)]) ∧ (decZ l).getD zero0 = z ∧ TkS w' sv z.pl ∧ Below w.heap.size w w' := by
  obtain ⟨vp, vc, rfl⟩ : ∃ a c, v = .slice a l.length c := by obtain ⟨a, c, h, -⟩ := h; exact ⟨a, c, h⟩
  have hW : Hid (∀ W, Below w.heap.size w W → Calls Tryd.prog 12 #[.slice vp l.length vc] W fun e w' => e = .returned (.bool (wholeL l)) ∧ Below W.heap.size W w') := Lib.hid fun W hb => refWhole_any _ _ W (h.below hb) (fun tk ht => (hs tk ht).1) (hU.below hb)
  cases hw : wholeL l
  · have e1 : decZ l = none := by unfold decZ; rw [if_pos hw]
    rw [e1]
    rw [hw] at hW
    replace h := Lib.hid h
    go_enter Tryd.func5, Tryd.ntmps5
    go_wp2_with (go_at_call 12; refine (hW.out _ (below1 _ _)).mono ?_; rintro e w1 ⟨rfl, hb⟩; obtain ⟨hc, hz⟩ := bat hb w.heap.size (by simp); have hb0 : w.heap.size < w1.heap.size := Nat.lt_of_lt_of_le (by simp) hb.size; replace hb := Lib.hid hb)
    refine bodyPost_ret (v := .tuple #[.agg #[.int .u8 0, .string ⟨#[]⟩, .string ⟨#[]⟩, .string ⟨#[]⟩, .string ⟨#[]⟩, .slice none 0 0], .int .i64 3]) (by simp [results, Tryd.results5, go_sem, hc, hz]) rfl ⟨_, zero0, rfl, rfl, tk_nil _ 0 (Nat.zero_le _), ?_⟩
    exact set6 (below1t hb.out) (Nat.le_refl _) _ _ _ _ _ _
  · have h2 := whole_two hw
    have hM := h.mid' h2
    have hdec : decZ l = match decA ⟨kindN (l[0]'(by omega)).n, [], [], [], [], []⟩ (l[0]'(by omega)).as with
      | some z => if rightZ { z with pl := (l.drop 1).take (l.length - 2) } then some { z with pl := (l.drop 1).take (l.length - 2) } else none
      | none => none := by
      unfold decZ
      rw [if_neg (by rw [hw]; simp), show l.head? = some (l[0]'(by omega)) by rw [List.head?_eq_getElem?, List.getElem?_eq_getElem (by omega)]]
      rfl
    have hs0 := hs _ (List.getElem_mem (by omega : 0 < l.length))
    have hMs : ∀ tk ∈ (l.drop 1).take (l.length - 2), tk.small ∧ tk.as.length * 32 ≤ 140737488351232 := fun tk ht => hs tk (List.mem_of_mem_drop (List.mem_of_mem_take ht))
    have hMl : ((l.drop 1).take (l.length - 2)).length ≤ 1000 := by simp; omega
    rw [hw] at hW
    obtain ⟨ptr, cap, he, hc1, hc2, hcell⟩ := h
    injection he with e1 e2 e3
    subst e1 e3
    obtain ⟨b, o, rfl, hb, hcc⟩ := hcell (by omega)
    obtain ⟨sv0, d0, d1, d2, d3, hA0⟩ := hcc 0 (by omega)
    rw [Nat.zero_mul, Nat.add_zero] at d0 d1 d2 d3
    generalize l[0] = tk0 at d0 d1 d2 d3 hA0 hdec hs0
    obtain ⟨k0, n0, al, t0⟩ := tk0
    simp only at d0 d1 d2 d3 hA0 hdec hs0
    generalize (l.drop 1).take (l.length - 2) = M at hM hdec hMs hMl
    obtain ⟨ap, ac, rfl, ha1, ha2, hat⟩ := hA0
    have hn2 : (2 : Int) ≤ l.length := by omega
    have hn9 : (l.length : Int) ≤ 9223372036854775807 := by omega
    have ha9 : (al.length : Int) ≤ 9223372036854775807 := by unfold maxLen at ha2; omega
    clear hs hcell hcc
    have hM := hM b o rfl
    generalize l.length = n at *
    replace hdec := Lib.hid hdec
    replace hMs := Lib.hid hMs
    replace hMl := Lib.hid hMl
    replace hs0 := Lib.hid hs0
    replace hat := Lib.hid hat
    replace hM := Lib.hid hM
    replace hw := Lib.hid hw
    replace hU := Lib.hid hU
    have h2' : 2 ≤ n := h2
    have h0n : 0 < n := by omega
    go_enter Tryd.func5, Tryd.ntmps5
    go_wp2_with (go_at_call 12; refine (hW.out _ (below1 _ _)).mono ?_; rintro e w1 ⟨rfl, hb1⟩; obtain ⟨hc, hz1⟩ := bat hb1 w.heap.size (by simp); have hb0 : w.heap.size < w1.heap.size := Nat.lt_of_lt_of_le (by simp) hb1.size; replace hb1 := Lib.hid (below1t hb1))
    have hw1 : w.heap.size < w1.heap.size := hb0
    go_loopw [5] (fun s5 wr => ∃ j : Nat, j ≤ 3 ∧ s5 = .int .u8 ((j : Int) + 1) ∧ Hid (wr.heap[w1.heap.size]? = some (objZ ⟨kdTo n0 j, [], [], [], [], []⟩ (.slice none 0 0))) ∧ Hid (Below w1.heap.size w1 wr)) (fun s5 _ => 4 - (intOf s5).toNat)
    case atStart =>
      exact ⟨0, by omega, rfl, Lib.hid (heap_alloc _ _).1, Lib.hid (below1 _ _)⟩
    case round =>
      obtain ⟨j, hj, rfl, hO, hB⟩ := hrel
      have hsz := hB.out.size
      by_cases hlt : j < 3
      · obtain ⟨K, hK⟩ : ∃ K, j + 1 = K := ⟨_, rfl⟩
        have hji : (j : Int) + 1 = (K : Int) := by omega
        have hK3 : (K : Int) ≤ 3 := by omega
        have hKn : Hid (K = 1 ∨ K = 2 ∨ K = 3) := Lib.hid (by omega)
        have hwK := wrapU K (by omega)
        have hKm : K ≤ 3 := by omega
        obtain ⟨oc, of, -⟩ := obj_cells hO.out
        have hbwr : b < wr.heap.size := by have := hb1.out.size; omega
        have d1' : wr.cell? ⟨b, o + 1, none⟩ = some (.string ⟨n0.toArray⟩) := by
          rw [(bat hB.out b (by have := hb1.out.size; omega)).1, (bat hb1.out b hb).1, d1]
        rw [hji]
        replace hK := Lib.hid hK
        have hwr : w1.heap.size < wr.heap.size := (obj_cells hO.out).2.2
        clear hji
        by_cases hn : nameK K = n0
        · have hnb : (nameK K == n0) = true := by simpa using hn
          have hob := Lib.hid (obj_set (i := 0) hO.out (.int .u8 K))
          clear hn
          go_wp2_with fail
          go_region_held3 (fun W => W.cell? ⟨b, o + 1, none⟩ = some (.string ⟨n0.toArray⟩)) (first | assumption) (first | (go_at_call 13; refine (refStName_any _ hKn.out _).mono ?_; rintro e w1 ⟨rfl, rfl⟩))
          all_goals go_wp2_with fail
          refine ⟨⟨j + 1, by omega, by rw [hK.out], ?_, Lib.hid ((hB.out.setCell (p := ⟨w1.heap.size, 0, none⟩) (Nat.le_refl _) _).drew)⟩, by simp [intOf]; omega⟩
          have e : kdTo n0 (j + 1) = K := by
            rw [← hK.out]
            unfold kdTo
            rw [if_pos (by rw [hK.out]; simpa using hnb)]
          rw [e]
          exact hob
        · have hnb : (nameK K == n0) = false := by simpa using hn
          have hnn : Hid (¬ nameK K = n0) := Lib.hid hn
          clear hn
          go_wp2_with fail
          go_region_held3 (fun W => W.cell? ⟨b, o + 1, none⟩ = some (.string ⟨n0.toArray⟩)) (first | assumption) (first | (go_at_call 13; refine (refStName_any _ hKn.out _).mono ?_; rintro e w1 ⟨rfl, rfl⟩))
          all_goals go_wp2_with fail
          refine ⟨⟨j + 1, by omega, by rw [hK.out], ?_, Lib.hid (hB.out.drew)⟩, by simp [intOf]; omega⟩
          have e : kdTo n0 (j + 1) = kdTo n0 j := by
            show (if nameK (j + 1) = n0 then j + 1 else kdTo n0 j) = _
            rw [if_neg (by rw [hK.out]; exact hnn.out)]
          rw [e]
          exact hO
      · obtain rfl : j = 3 := by omega
        rw [kdTo_3] at hO
        obtain ⟨oc, of, hwr⟩ := obj_cells hO.out
        have hbwr : b < wr.heap.size := by have := hb1.out.size; omega
        have hbw1 : b < w1.heap.size := by have := hb1.out.size; omega
        have d2' : wr.cell? ⟨b, o + 2, none⟩ = some (.slice ap al.length ac) := by
          rw [(bat hB.out b hbw1).1, (bat hb1.out b hb).1, d2]
        clear oc of
        generalize kindN n0 = kd at hO hdec
        rw [show ((3 : Nat) : Int) + 1 = 4 from rfl]
        go_wp2_with fail
        go_loopw [6] (fun s6 wr => ∃ (j : Nat) (z : Sz), j ≤ al.length ∧ s6 = .int .i64 j ∧ Hid (decA ⟨kd, [], [], [], [], []⟩ (al.take j) = some z) ∧ Hid (wr.heap[w1.heap.size]? = some (objZ z (.slice none 0 0))) ∧ Hid (Below w1.heap.size w1 wr)) (fun s6 _ => al.length - (intOf s6).toNat)
        case atStart =>
          exact ⟨0, _, by omega, rfl, Lib.hid rfl, hO, hB⟩
        case round =>
          clear hO hB hwr hbwr d2'
          obtain ⟨j, z, hj, rfl, hz, hO, hB⟩ := hrel
          have hsz := hB.out.size
          obtain ⟨oc, of, hwr⟩ := obj_cells hO.out
          have hbwr : b < wr.heap.size := by omega
          have d2' : wr.cell? ⟨b, o + 2, none⟩ = some (.slice ap al.length ac) := by
            rw [(bat hB.out b hbw1).1, (bat hb1.out b hb).1, d2]
          by_cases hlt : j < al.length
          · obtain ⟨ab, ao, rfl, hab, hacell⟩ := hat.out (by omega)
            obtain ⟨a0, a1⟩ := hacell j hlt
            have hj1 := decA_step hlt hz.out
            have hj2 := decA_stop hlt hz.out
            have hji : (j : Int) < al.length := by omega
            have hab1 : ab < w1.heap.size := by have := hb1.out.size; omega
            have habr : ab < wr.heap.size := by omega
            replace a0 : wr.cell? ⟨ab, ao + j * 2, none⟩ = _ := ((bat hB.out ab hab1).1 _).trans (((bat hb1.out ab hab).1 _).trans a0)
            replace a1 : wr.cell? ⟨ab, ao + j * 2 + 1, none⟩ = _ := ((bat hB.out ab hab1).1 _).trans (((bat hb1.out ab hab).1 _).trans a1)
            clear hacell
            generalize al[j] = p at a0 a1 hj1 hj2
            obtain ⟨nm, vl⟩ := p
            simp only at a0 a1 hj1 hj2
            replace hj2 := Lib.hid hj2
            by_cases g1 : nm = tyL
            · have hset : setZ z (nm, vl) = some { z with ty := vl } := by unfold setZ; rw [if_pos g1]
              have hj3 := Lib.hid (hj1.trans hset)
              have hob := Lib.hid (obj_alloc (o' := .cells #[.string ⟨nm.toArray⟩, .string ⟨vl.toArray⟩] 39) (obj_set (i := 1) hO.out (.string ⟨vl.toArray⟩)))
              have hBB := Lib.hid (belowA (hB.out.setCell (p := ⟨w1.heap.size, 1, none⟩) (Nat.le_refl _) (.string ⟨vl.toArray⟩)) (.cells #[.string ⟨nm.toArray⟩, .string ⟨vl.toArray⟩] 39))
              clear hj1 hj2 hset
              subst g1
              unfold tyL at *
              go_wp2_with fail
              exact ⟨⟨j + 1, { z with ty := vl }, by omega, by simp, hj3, hob, hBB⟩, by simp [intOf]; omega⟩
            have b1 : (nm == [116, 121, 112, 101]) = false := by rw [beq_eq_false_iff_ne]; exact g1
            by_cases g2 : nm = frL
            · have hset : setZ z (nm, vl) = some { z with fr := vl } := by unfold setZ; rw [if_neg g1, if_pos g2]
              have hj3 := Lib.hid (hj1.trans hset)
              have hob := Lib.hid (obj_alloc (o' := .cells #[.string ⟨nm.toArray⟩, .string ⟨vl.toArray⟩] 39) (obj_set (i := 2) hO.out (.string ⟨vl.toArray⟩)))
              have hBB := Lib.hid (belowA (hB.out.setCell (p := ⟨w1.heap.size, 2, none⟩) (Nat.le_refl _) (.string ⟨vl.toArray⟩)) (.cells #[.string ⟨nm.toArray⟩, .string ⟨vl.toArray⟩] 39))
              clear hj1 hj2 hset g1
              subst g2
              unfold frL at *
              go_wp2_with fail
              exact ⟨⟨j + 1, { z with fr := vl }, by omega, by simp, hj3, hob, hBB⟩, by simp [intOf]; omega⟩
            have b2 : (nm == [102, 114, 111, 109]) = false := by rw [beq_eq_false_iff_ne]; exact g2
            by_cases g3 : nm = toL
            · have hset : setZ z (nm, vl) = some { z with tt := vl } := by unfold setZ; rw [if_neg g1, if_neg g2, if_pos g3]
              have hj3 := Lib.hid (hj1.trans hset)
              have hob := Lib.hid (obj_alloc (o' := .cells #[.string ⟨nm.toArray⟩, .string ⟨vl.toArray⟩] 39) (obj_set (i := 3) hO.out (.string ⟨vl.toArray⟩)))
              have hBB := Lib.hid (belowA (hB.out.setCell (p := ⟨w1.heap.size, 3, none⟩) (Nat.le_refl _) (.string ⟨vl.toArray⟩)) (.cells #[.string ⟨nm.toArray⟩, .string ⟨vl.toArray⟩] 39))
              clear hj1 hj2 hset g1 g2
              subst g3
              unfold toL at *
              go_wp2_with fail
              exact ⟨⟨j + 1, { z with tt := vl }, by omega, by simp, hj3, hob, hBB⟩, by simp [intOf]; omega⟩
            have b3 : (nm == [116, 111]) = false := by rw [beq_eq_false_iff_ne]; exact g3
            by_cases g4 : nm = idL
            · have hset : setZ z (nm, vl) = some { z with id := vl } := by unfold setZ; rw [if_neg g1, if_neg g2, if_neg g3, if_pos g4]
              have hj3 := Lib.hid (hj1.trans hset)
              have hob := Lib.hid (obj_alloc (o' := .cells #[.string ⟨nm.toArray⟩, .string ⟨vl.toArray⟩] 39) (obj_set (i := 4) hO.out (.string ⟨vl.toArray⟩)))
              have hBB := Lib.hid (belowA (hB.out.setCell (p := ⟨w1.heap.size, 4, none⟩) (Nat.le_refl _) (.string ⟨vl.toArray⟩)) (.cells #[.string ⟨nm.toArray⟩, .string ⟨vl.toArray⟩] 39))
              clear hj1 hj2 hset g1 g2 g3
              subst g4
              unfold idL at *
              go_wp2_with fail
              exact ⟨⟨j + 1, { z with id := vl }, by omega, by simp, hj3, hob, hBB⟩, by simp [intOf]; omega⟩
            have b4 : (nm == [105, 100]) = false := by rw [beq_eq_false_iff_ne]; exact g4
            have hnone : Hid (decZ l = none) := Lib.hid (by rw [hdec.out, hj2.out (by unfold setZ; rw [if_neg g1, if_neg g2, if_neg g3, if_neg g4])])
            have hcw := fun o => ((bat hB.out w.heap.size hb0).1 o).trans (hc o)
            have hzw := fun o => ((bat hB.out w.heap.size hb0).2 o).trans (hz1 o)
            have hwr0 : w.heap.size < wr.heap.size := by omega
            clear hc hz1 g1 g2 g3 g4 hj1
            go_wp2_with fail
            refine bodyPost_ret (v := .tuple #[.agg #[.int .u8 0, .string ⟨#[]⟩, .string ⟨#[]⟩, .string ⟨#[]⟩, .string ⟨#[]⟩, .slice none 0 0], .int .i64 3]) (by simp [results, Tryd.results5, go_sem, hcw, hzw, hwr0]) rfl ⟨_, zero0, by rw [hnone.out]; rfl, by rw [hnone.out]; rfl, tk_nil _ 0 (Nat.zero_le _), ?_⟩
            exact belowA (set6 (hb1.out.trans (hB.out.mono (by omega))) (Nat.le_refl _) _ _ _ _ _ _) _
          · obtain rfl : j = al.length := by omega
            rw [List.take_of_length_le (Nat.le_refl _)] at hz
            obtain ⟨⟨s1, s2, s3, s4⟩, hzk, hzp⟩ := decA_small hs0.out.1.2.2.2 (z := ⟨kd, [], [], [], [], []⟩) ⟨by simp, by simp, by simp, by simp⟩ hz.out
            have hzs : ({ z with pl := M } : Sz).small := ⟨⟨s1, s2, s3, s4⟩, hMl.out, hMs.out⟩
            have hdec' : decZ l = if rightZ { z with pl := M } then some { z with pl := M } else none := by rw [hdec.out, hz.out]
            have hel : Hid (∀ W, Below w.heap.size w W → Calls Tryd.prog 14 #[.string ⟨#[120]⟩, .slice none 0 0, .slice (some ⟨b, o + 4, none⟩) (n - 1 - 1) (vc - 1)] W fun e w' => ∃ v, e = .returned v ∧ TkF W.heap.size w' v (elemL [120] [] M) ∧ Below W.heap.size W w') := Lib.hid fun W hb => by rw [Nat.sub_sub]; exact refElement_any [120] _ _ [] M W (at_nil _ 0 (Nat.zero_le _)) (by simp) (hM.out.below hb) hMl.out (fun tk ht => (hMs.out tk ht).2)
            have hRt : Hid (∀ W v', Below w.heap.size w W → TkS W v' M → Calls Tryd.prog 15 #[szV { z with pl := M } v'] W fun e w' => e = .returned (.bool (rightZ { z with pl := M })) ∧ Below W.heap.size W w') := Lib.hid fun W v' hb h => ref06Right_any { z with pl := M } v' W h hzs (hU.out.below hb)
            have hcw := fun o => ((bat hB.out w.heap.size hb0).1 o).trans (hc o)
            have hzw := fun o => ((bat hB.out w.heap.size hb0).2 o).trans (hz1 o)
            have hwr0 : w.heap.size < wr.heap.size := by omega
            have hBw : Hid (Below w.heap.size w wr) := Lib.hid (hb1.out.trans (hB.out.mono (by omega)))
            clear hc hz1 hzp hzk hzs hj hlt oc of d0 d1 d2 d3 hat
            replace hz := Lib.hid hz
            obtain ⟨N, hN⟩ : ∃ N, (elemL [120] [] M).length = N := ⟨_, rfl⟩
            have hNM : N = M.length + 2 := by rw [← hN]; simp [elemL]
            have hN2 : 2 ≤ N := by omega
            have hN3 : N ≤ 1002 := by have := hMl.out; omega
            replace hN := Lib.hid hN
            have i2 : (2 : Int) ≤ (N : Int) := by omega
            have i9 : (N : Int) ≤ 1002 := by omega
            have j1 : (1 : Int) ≤ (N : Int) - 1 := by omega
            have j3 : (0 : Int) ≤ (N : Int) - 1 := by omega
            have j4 : ((N : Int) - 1).toNat = N - 1 := by omega
            have j5 : 1 ≤ N - 1 := by omega
            have j7 : IntKind.i64.wrap ((N : Int) - 1) = (N : Int) - 1 := wrap_small _ (by omega) (by omega)
            by_cases hM0 : N = 2
            · have hMe : Hid (M = []) := Lib.hid (List.length_eq_zero_iff.1 (by omega))
              clear hNM
              subst hM0
              cases hr : rightZ { z with pl := M }
              ·
                have hres : Hid (decZ l = none) := Lib.hid (by rw [hdec', hr]; rfl)
                rw [hr] at hRt
                clear hdec'
                replace hr := Lib.hid hr
                go_wp2_with (first
                  | (go_at_call 14
                     refine (hel.out _ hBw.out).mono ?_
                     rintro e w2 ⟨v', rfl, hF, hb2⟩
                     obtain ⟨vp, vc', rfl, hvc, hvm, hvp⟩ : ∃ a c, v' = .slice a 2 c ∧ 2 ≤ c ∧ c ≤ maxLen ∧ ∃ b o, a = some ⟨b, o, none⟩ := (by obtain ⟨a, c, h, h1, h2, h3⟩ := hF.tks; obtain ⟨b, o, h4, -⟩ := h3 (by rw [hN.out]; omega); rw [hN.out] at h h1; exact ⟨a, c, h, h1, h2, b, o, h4⟩)
                     obtain ⟨gb, go, rfl⟩ := hvp
                     have hF3 : Hid (TkF wr.heap.size w2 (.slice (some ⟨gb, go, none⟩) 0 0) M) := Lib.hid (by have h := hF.mid4 hN.out; rw [if_pos rfl] at h; exact h)
                     have j2 : (2 : Int) - 1 ≤ (vc' : Int) := by omega
                     have j6 : 2 - 1 ≤ vc' := by omega
                     have i3 : (2 : Int) ≤ (vc' : Int) := by omega
                     obtain ⟨oc2, of2, hw2⟩ := obj_cells ((hb2.block _ hwr).trans hO.out)
                     have hcw2 := fun o => ((bat hb2 w.heap.size hwr0).1 o).trans (hcw o)
                     have hzw2 := fun o => ((bat hb2 w.heap.size hwr0).2 o).trans (hzw o)
                     have hw20 : w.heap.size < w2.heap.size := Nat.lt_of_lt_of_le hwr0 hb2.size
                     have hne : (w.heap.size = w1.heap.size) = False := by simp; omega
                     clear hF
                     replace hb2 := Lib.hid hb2)
                  | (go_at_call 15
                     refine (hRt.out _ _ ((belowT hBw.out hb2.out).setCell (p := ⟨w1.heap.size, 5, none⟩) (Nat.le_of_lt hw1) _) (hF3.out.set hwr _).tks).mono ?_
                     rintro e w4 ⟨rfl, hb4⟩
                     have hs3 : (w2.setCell ⟨w1.heap.size, 5, none⟩ (.slice (some ⟨gb, go, none⟩) 0 0)).heap.size = w2.heap.size := by simp [World.setCell]
                     obtain ⟨hcw4, hzw4⟩ := bat hb4 w.heap.size (by rw [hs3]; exact hw20)
                     obtain ⟨hcs4, -⟩ := bat hb4 w1.heap.size (by rw [hs3]; exact hw2)
                     replace hb4 := Lib.hid hb4
                     replace hs3 := Lib.hid hs3))
                refine bodyPost_ret (v := .tuple #[.agg #[.int .u8 0, .string ⟨#[]⟩, .string ⟨#[]⟩, .string ⟨#[]⟩, .string ⟨#[]⟩, .slice none 0 0], .int .i64 3]) (by simp [results, Tryd.results5, go_sem, hcw4, hzw4, hcw2, hzw2, hne]) rfl ⟨_, zero0, by rw [hres.out]; rfl, by rw [hres.out]; rfl, tk_nil _ 0 (Nat.zero_le _), ?_⟩
                exact set6 (belowT ((belowT hBw.out hb2.out).setCell (p := ⟨w1.heap.size, 5, none⟩) (Nat.le_of_lt hw1) _) hb4.out) (Nat.le_refl _) _ _ _ _ _ _
              ·
                have hres : Hid (decZ l = some { z with pl := M }) := Lib.hid (by rw [hdec', hr]; rfl)
                rw [hr] at hRt
                clear hdec'
                replace hr := Lib.hid hr
                go_wp2_with (first
                  | (go_at_call 14
                     refine (hel.out _ hBw.out).mono ?_
                     rintro e w2 ⟨v', rfl, hF, hb2⟩
                     obtain ⟨vp, vc', rfl, hvc, hvm, hvp⟩ : ∃ a c, v' = .slice a 2 c ∧ 2 ≤ c ∧ c ≤ maxLen ∧ ∃ b o, a = some ⟨b, o, none⟩ := (by obtain ⟨a, c, h, h1, h2, h3⟩ := hF.tks; obtain ⟨b, o, h4, -⟩ := h3 (by rw [hN.out]; omega); rw [hN.out] at h h1; exact ⟨a, c, h, h1, h2, b, o, h4⟩)
                     obtain ⟨gb, go, rfl⟩ := hvp
                     have hF3 : Hid (TkF wr.heap.size w2 (.slice (some ⟨gb, go, none⟩) 0 0) M) := Lib.hid (by have h := hF.mid4 hN.out; rw [if_pos rfl] at h; exact h)
                     have j2 : (2 : Int) - 1 ≤ (vc' : Int) := by omega
                     have j6 : 2 - 1 ≤ vc' := by omega
                     have i3 : (2 : Int) ≤ (vc' : Int) := by omega
                     obtain ⟨oc2, of2, hw2⟩ := obj_cells ((hb2.block _ hwr).trans hO.out)
                     have hcw2 := fun o => ((bat hb2 w.heap.size hwr0).1 o).trans (hcw o)
                     have hzw2 := fun o => ((bat hb2 w.heap.size hwr0).2 o).trans (hzw o)
                     have hw20 : w.heap.size < w2.heap.size := Nat.lt_of_lt_of_le hwr0 hb2.size
                     have hne : (w.heap.size = w1.heap.size) = False := by simp; omega
                     clear hF
                     replace hb2 := Lib.hid hb2)
                  | (go_at_call 15
                     refine (hRt.out _ _ ((belowT hBw.out hb2.out).setCell (p := ⟨w1.heap.size, 5, none⟩) (Nat.le_of_lt hw1) _) (hF3.out.set hwr _).tks).mono ?_
                     rintro e w4 ⟨rfl, hb4⟩
                     have hs3 : (w2.setCell ⟨w1.heap.size, 5, none⟩ (.slice (some ⟨gb, go, none⟩) 0 0)).heap.size = w2.heap.size := by simp [World.setCell]
                     obtain ⟨hcw4, hzw4⟩ := bat hb4 w.heap.size (by rw [hs3]; exact hw20)
                     obtain ⟨hcs4, -⟩ := bat hb4 w1.heap.size (by rw [hs3]; exact hw2)
                     replace hb4 := Lib.hid hb4
                     replace hs3 := Lib.hid hs3))
                refine bodyPost_ret (v := .tuple #[szV { z with pl := M } (.slice (some ⟨gb, go, none⟩) 0 0), .int .i64 0]) (by simp [szV, results, Tryd.results5, go_sem, hcw4, hzw4, hcw2, hzw2, hne]) rfl ⟨_, _, by rw [hres.out]; rfl, by rw [hres.out]; rfl, ((hF3.out.set hwr _).below hb4.out).set6 hwr0 _ _ _ _ _ _, ?_⟩
                exact set6 (belowT ((belowT hBw.out hb2.out).setCell (p := ⟨w1.heap.size, 5, none⟩) (Nat.le_of_lt hw1) _) hb4.out) (Nat.le_refl _) _ _ _ _ _ _
            · clear hNM
              cases hr : rightZ { z with pl := M }
              ·
                have hres : Hid (decZ l = none) := Lib.hid (by rw [hdec', hr]; rfl)
                rw [hr] at hRt
                clear hdec'
                replace hr := Lib.hid hr
                go_wp2_with (first
                  | (go_at_call 14
                     refine (hel.out _ hBw.out).mono ?_
                     rintro e w2 ⟨v', rfl, hF, hb2⟩
                     obtain ⟨vp, vc', rfl, hvc, hvm, hvp⟩ : ∃ a c, v' = .slice a N c ∧ N ≤ c ∧ c ≤ maxLen ∧ ∃ b o, a = some ⟨b, o, none⟩ := (by obtain ⟨a, c, h, h1, h2, h3⟩ := hF.tks; obtain ⟨b, o, h4, -⟩ := h3 (by rw [hN.out]; omega); rw [hN.out] at h h1; exact ⟨a, c, h, h1, h2, b, o, h4⟩)
                     obtain ⟨gb, go, rfl⟩ := hvp
                     have hF3 : Hid (TkF wr.heap.size w2 (.slice (some ⟨gb, go + 4, none⟩) (N - 1 - 1) (N - 1 - 1)) M) := Lib.hid (by have h := hF.mid4 hN.out; rw [if_neg hM0] at h; exact h)
                     have j2 : (N : Int) - 1 ≤ (vc' : Int) := by omega
                     have j6 : N - 1 ≤ vc' := by omega
                     have i3 : (N : Int) ≤ (vc' : Int) := by omega
                     obtain ⟨oc2, of2, hw2⟩ := obj_cells ((hb2.block _ hwr).trans hO.out)
                     have hcw2 := fun o => ((bat hb2 w.heap.size hwr0).1 o).trans (hcw o)
                     have hzw2 := fun o => ((bat hb2 w.heap.size hwr0).2 o).trans (hzw o)
                     have hw20 : w.heap.size < w2.heap.size := Nat.lt_of_lt_of_le hwr0 hb2.size
                     have hne : (w.heap.size = w1.heap.size) = False := by simp; omega
                     clear hF
                     replace hb2 := Lib.hid hb2)
                  | (go_at_call 15
                     refine (hRt.out _ _ ((belowT hBw.out hb2.out).setCell (p := ⟨w1.heap.size, 5, none⟩) (Nat.le_of_lt hw1) _) (hF3.out.set hwr _).tks).mono ?_
                     rintro e w4 ⟨rfl, hb4⟩
                     have hs3 : (w2.setCell ⟨w1.heap.size, 5, none⟩ (.slice (some ⟨gb, go + 4, none⟩) (N - 1 - 1) (N - 1 - 1))).heap.size = w2.heap.size := by simp [World.setCell]
                     obtain ⟨hcw4, hzw4⟩ := bat hb4 w.heap.size (by rw [hs3]; exact hw20)
                     obtain ⟨hcs4, -⟩ := bat hb4 w1.heap.size (by rw [hs3]; exact hw2)
                     replace hb4 := Lib.hid hb4
                     replace hs3 := Lib.hid hs3))
                refine bodyPost_ret (v := .tuple #[.agg #[.int .u8 0, .string ⟨#[]⟩, .string ⟨#[]⟩, .string ⟨#[]⟩, .string ⟨#[]⟩, .slice none 0 0], .int .i64 3]) (by simp [results, Tryd.results5, go_sem, hcw4, hzw4, hcw2, hzw2, hne]) rfl ⟨_, zero0, by rw [hres.out]; rfl, by rw [hres.out]; rfl, tk_nil _ 0 (Nat.zero_le _), ?_⟩
                exact set6 (belowT ((belowT hBw.out hb2.out).setCell (p := ⟨w1.heap.size, 5, none⟩) (Nat.le_of_lt hw1) _) hb4.out) (Nat.le_refl _) _ _ _ _ _ _
              ·
                have hres : Hid (decZ l = some { z with pl := M }) := Lib.hid (by rw [hdec', hr]; rfl)
                rw [hr] at hRt
                clear hdec'
                replace hr := Lib.hid hr
                go_wp2_with (first
                  | (go_at_call 14
                     refine (hel.out _ hBw.out).mono ?_
                     rintro e w2 ⟨v', rfl, hF, hb2⟩
                     obtain ⟨vp, vc', rfl, hvc, hvm, hvp⟩ : ∃ a c, v' = .slice a N c ∧ N ≤ c ∧ c ≤ maxLen ∧ ∃ b o, a = some ⟨b, o, none⟩ := (by obtain ⟨a, c, h, h1, h2, h3⟩ := hF.tks; obtain ⟨b, o, h4, -⟩ := h3 (by rw [hN.out]; omega); rw [hN.out] at h h1; exact ⟨a, c, h, h1, h2, b, o, h4⟩)
                     obtain ⟨gb, go, rfl⟩ := hvp
                     have hF3 : Hid (TkF wr.heap.size w2 (.slice (some ⟨gb, go + 4, none⟩) (N - 1 - 1) (N - 1 - 1)) M) := Lib.hid (by have h := hF.mid4 hN.out; rw [if_neg hM0] at h; exact h)
                     have j2 : (N : Int) - 1 ≤ (vc' : Int) := by omega
                     have j6 : N - 1 ≤ vc' := by omega
                     have i3 : (N : Int) ≤ (vc' : Int) := by omega
                     obtain ⟨oc2, of2, hw2⟩ := obj_cells ((hb2.block _ hwr).trans hO.out)
                     have hcw2 := fun o => ((bat hb2 w.heap.size hwr0).1 o).trans (hcw o)
                     have hzw2 := fun o => ((bat hb2 w.heap.size hwr0).2 o).trans (hzw o)
                     have hw20 : w.heap.size < w2.heap.size := Nat.lt_of_lt_of_le hwr0 hb2.size
                     have hne : (w.heap.size = w1.heap.size) = False := by simp; omega
                     clear hF
                     replace hb2 := Lib.hid hb2)
                  | (go_at_call 15
                     refine (hRt.out _ _ ((belowT hBw.out hb2.out).setCell (p := ⟨w1.heap.size, 5, none⟩) (Nat.le_of_lt hw1) _) (hF3.out.set hwr _).tks).mono ?_
                     rintro e w4 ⟨rfl, hb4⟩
                     have hs3 : (w2.setCell ⟨w1.heap.size, 5, none⟩ (.slice (some ⟨gb, go + 4, none⟩) (N - 1 - 1) (N - 1 - 1))).heap.size = w2.heap.size := by simp [World.setCell]
                     obtain ⟨hcw4, hzw4⟩ := bat hb4 w.heap.size (by rw [hs3]; exact hw20)
                     obtain ⟨hcs4, -⟩ := bat hb4 w1.heap.size (by rw [hs3]; exact hw2)
                     replace hb4 := Lib.hid hb4
                     replace hs3 := Lib.hid hs3))
                refine bodyPost_ret (v := .tuple #[szV { z with pl := M } (.slice (some ⟨gb, go + 4, none⟩) (N - 1 - 1) (N - 1 - 1)), .int .i64 0]) (by simp [szV, results, Tryd.results5, go_sem, hcw4, hzw4, hcw2, hzw2, hne]) rfl ⟨_, _, by rw [hres.out]; rfl, by rw [hres.out]; rfl, ((hF3.out.set hwr _).below hb4.out).set6 hwr0 _ _ _ _ _ _, ?_⟩
                exact set6 (belowT ((belowT hBw.out hb2.out).setCell (p := ⟨w1.heap.size, 5, none⟩) (Nat.le_of_lt hw1) _) hb4.out) (Nat.le_refl _) _ _ _ _ _ _
end Go.Proofs.YtcfkegfddiglcaaDoor
