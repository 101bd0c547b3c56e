/-
  The two ways to say which characters may be in a text are one: 'an invalid encoding' and 'U+FFFD that is not written out'. No program, no condition.
-/
import Derived.Test.YtcfkegfddiglcaaDoorTxA
import Derived.Lib.ValidU
import Derived.Lib.TrimUEq
import Derived.Test.YtcfkegfddiglcaaDoorShelf2
import Derived.Laws.RangeAny
import Derived.Test.YtcfkegfddiglcaaDoorWrRight
import Derived.Test.YtcfkegfddiglcaaDoorWrOps
import Derived.Test.YtcfkegfddiglcaaDoorWrWalk
import Derived.Test.YtcfkegfddiglcaaDoorWrWhole
import Derived.Test.YtcfkegfddiglcaaDoorFloat
import Derived.Test.YtcfkegfddiglcaaDoorWrWhole2
namespace Go.Proofs.YtcfkegfddiglcaaDoor
set_option linter.unusedVariables false
set_option linter.unusedSimpArgs false
open Go.RowKit
theorem pre3 (l : List UInt8) : preP l [239, 191, 189] = (decide (3 ≤ l.length) && decide ((l.getD 0 0).toNat = 239) && decide ((l.getD 1 0).toNat = 191) && decide ((l.getD 2 0).toNat = 189)) := by
  have e : ∀ x y : UInt8, (x == y) = decide (x.toNat = y.toNat) := fun x y => by
    rw [Bool.eq_iff_iff]; simp [UInt8.toNat_inj]
  match l with
  | [] => rfl
  | [a] => rfl
  | [a, b] => rfl
  | a :: b :: c :: r =>
    unfold preP
    simp [e, Bool.and_assoc]
theorem dec_bad (l : List UInt8) : ((Lib.decodeL l).1 = 65533 ∧ (Lib.decodeL l).2 = 1) ↔ ((Lib.decodeL l).1 = 65533 ∧ preP l [239, 191, 189] = false) := by
  rw [pre3, Lib.decodeL_N]
  have h0 := (l.getD 0 0).toNat_lt
  have h1 := (l.getD 1 0).toNat_lt
  have h2 := (l.getD 2 0).toNat_lt
  have h3 := (l.getD 3 0).toNat_lt
  generalize (l.getD 0 0).toNat = b0 at *
  generalize (l.getD 1 0).toNat = b1 at *
  generalize (l.getD 2 0).toNat = b2 at *
  generalize (l.getD 3 0).toNat = b3 at *
  generalize l.length = n at *
  have hr : (decide (3 ≤ n) && decide (b0 = 239) && decide (b1 = 191) && decide (b2 = 189)) = false ↔ ¬ (3 ≤ n ∧ b0 = 239 ∧ b1 = 191 ∧ b2 = 189) := by
    rw [Bool.eq_false_iff]
    simp [and_assoc]
  rw [hr]
  unfold Lib.decodeN
  repeat' split
  all_goals
    simp only
    constructor
    · rintro ⟨e1, e2⟩
      first | (exfalso; omega) | exact ⟨e1, by omega⟩
    · rintro ⟨e1, e2⟩
      first | (exfalso; omega) | exact ⟨e1, by omega⟩
def okV (c : Nat) : Bool := decide (c ≠ 65534 ∧ c ≠ 65535 ∧ (32 ≤ c ∨ c = 9 ∨ c = 10 ∨ c = 13))
def charsV (s : List UInt8) : Nat → Nat → Bool
  | 0, _ => true
  | n + 1, pos => if pos < s.length then okV (Utf8.decode ⟨s.toArray⟩ pos).1 && charsV s n (pos + (Utf8.decode ⟨s.toArray⟩ pos).2) else true
theorem charsV_end (s : List UInt8) (b pos : Nat) (h : ¬ pos < s.length) : charsV s b pos = true := by
  cases b with
  | zero => rfl
  | succ b => simp [charsV, h]
theorem dec_at (s : List UInt8) (pos : Nat) : Utf8.decode ⟨s.toArray⟩ pos = Lib.decodeL (s.drop pos) := by
  have := Lib.decodeL_drop ⟨s.toArray⟩ pos
  simpa using this.symm
theorem chars_split (s : List UInt8) : ∀ n pos, charsF s n pos = (Lib.validGoD n (s.drop pos) && charsV s n pos)
  | 0, _ => rfl
  | n + 1, pos => by
    unfold charsF charsV Lib.validGoD
    by_cases h : pos < s.length
    · have h0 : s.drop pos ≠ [] := by simp; omega
      rw [if_pos h, if_pos h, if_neg h0, dec_at, chars_split s n, List.drop_drop]
      have hb := dec_bad (s.drop pos)
      generalize (Lib.decodeL (s.drop pos)).1 = c at *
      generalize (Lib.decodeL (s.drop pos)).2 = d at *
      by_cases hc : c = 65533 ∧ d = 1
      · rw [if_pos hc]
        have := hb.1 hc
        simp [okC, this]
      · rw [if_neg hc]
        have hn : ¬ (c = 65533 ∧ preP (s.drop pos) [239, 191, 189] = false) := fun h => hc (hb.2 h)
        have e : okC s pos c = okV c := by
          unfold okC okV
          by_cases e1 : c = 65533
          · have : preP (s.drop pos) [239, 191, 189] = true := by
              cases hp : preP (s.drop pos) [239, 191, 189] with
              | true => rfl
              | false => exact absurd ⟨e1, hp⟩ hn
            rw [this]; simp
          · simp [e1]
        rw [e]
        cases okV c <;> simp [Bool.and_comm, Bool.and_left_comm]
    · rw [if_neg h, if_neg h]
      have h0 : s.drop pos = [] := by simp; omega
      rw [if_pos h0]; rfl
theorem chars_valid (s : List UInt8) : charsP s = (Lib.validD s && charsV s s.length 0) := by
  unfold charsP Lib.validD
  rw [chars_split]
  rfl
end Go.Proofs.YtcfkegfddiglcaaDoor
/-
  Characters that may be in XML, by the reference (heliographref02.Chars), and its texts that fit (heliographref04.small). Conditions: the reach; the library's tables are as they were laid.
-/
namespace Go.Proofs.YtcfkegfddiglcaaDoor
set_option linter.unusedVariables false
set_option linter.unusedSimpArgs false
open Go.RowKit
def U8T (w : World) : Prop := Lib.Utf8Tabs 0 1 w
theorem U8T.below {w w' : World} (h : U8T w) (hb : Below w.heap.size w w') : U8T w' := by
  obtain ⟨h1, h2⟩ := h
  have c1 : ∀ c, c < 256 → w'.cell? ⟨0, c, none⟩ = _ := fun c hc => (hb.cell (p := ⟨0, c, none⟩) (by
    have := h1 c hc
    rcases Nat.lt_or_ge 0 w.heap.size with h' | h'
    · exact h'
    · simp [World.cell?, Array.getElem?_eq_none h'] at this)).trans (h1 c hc)
  have lt4 : 1 < w.heap.size := by
    have := (h2 0 (by omega)).1
    rcases Nat.lt_or_ge 1 w.heap.size with h' | h'
    · exact h'
    · simp [World.cell?, Array.getElem?_eq_none h'] at this
  exact ⟨c1, fun i hi => ⟨(hb.cell (p := ⟨1, 2 * i, none⟩) lt4).trans (h2 i hi).1, (hb.cell (p := ⟨1, 2 * i + 1, none⟩) lt4).trans (h2 i hi).2⟩⟩
theorem valid_any (s : List UInt8) (w : World) (hs : s.length ≤ 140737488351232) (hU : U8T w) :
    Calls Tryd.prog 46 #[.string ⟨s.toArray⟩] w fun e w' => e = .returned (.bool (Lib.validD s)) ∧ Below w.heap.size w w' := by
  have := Any.utf8_ValidString Tryd.laysValid ⟨s.toArray⟩ w (by show s.toArray.size ≤ _; simp; omega) hU
  exact this
theorem okV_true {c : Nat} (h : (c : Int) ≠ 65534 ∧ (c : Int) ≠ 65535 ∧ (32 ≤ (c : Int) ∨ (c : Int) = 9 ∨ (c : Int) = 10 ∨ (c : Int) = 13)) : okV c = true := by
  unfold okV; rw [decide_eq_true_eq]; omega
theorem okV_not {c : Nat} (h : ¬((c : Int) ≠ 65534 ∧ (c : Int) ≠ 65535 ∧ (32 ≤ (c : Int) ∨ (c : Int) = 9 ∨ (c : Int) = 10 ∨ (c : Int) = 13))) : okV c = false := by
  unfold okV; rw [decide_eq_false_iff_not]; omega
set_option maxHeartbeats 4000000 in
theorem refChars_any (s : List UInt8) (w : World) (hs : s.length ≤ 140737488351232) (hU : U8T w) :
    Calls Tryd.prog 31 #[.string ⟨s.toArray⟩] w fun e w' => e = .returned (.bool (charsP s)) ∧ Below w.heap.size w w' := by
  have hV := valid_any s w hs hU
  rw [chars_valid]
  replace hU := Lib.hid hU
  cases hv : Lib.validD s
  · rw [hv] at hV
    replace hv := Lib.hid hv
    replace hV := Lib.hid hV
    go_enter Tryd.func31, Tryd.ntmps31
    go_wp2_with (go_at_call 46; refine hV.out.mono ?_; rintro e w1 ⟨rfl, hb⟩)
    go_ret
    exact ⟨rfl, hb⟩
  · rw [hv] at hV
    replace hv := Lib.hid hv
    replace hV := Lib.hid hV
    rw [Bool.true_and]
    generalize hCV : charsV s s.length 0 = CV
    replace hCV := Lib.hid hCV
    go_enter Tryd.func31, Tryd.ntmps31
    go_wp2_with (go_at_call 46; refine hV.out.mono ?_; rintro e w1 ⟨rfl, hb1⟩; replace hb1 := Lib.hid hb1)
    go_loopw [4] (fun _ wr => ∃ (pos b : Nat), wr = w1.iter ⟨s.toArray⟩ pos ∧ Hid (charsV s b pos = CV) ∧ s.length ≤ pos + b) (fun _ w' => s.length - w'.iterPos w1.heap.size)
    case atStart => exact ⟨0, s.length, rfl, hCV, by omega⟩
    case round =>
      obtain ⟨pos, b, rfl, hc, hb⟩ := hrel
      replace hc := hc.out
      by_cases hp : pos < s.length
      · have hnx : ∀ ty, (Instr.next (.pointer (some ⟨w1.heap.size, 0, none⟩)) true ty).run Tryd.prog (w1.iter ⟨s.toArray⟩ pos) = _ := fun ty => run_next_any w1 ⟨s.toArray⟩ pos ty hp
        have hwd := width_pos ⟨s.toArray⟩ pos hp
        cases b with
        | zero => omega
        | succ b =>
          rw [charsV, if_pos hp] at hc
          revert hnx hwd hc
          generalize (Utf8.decode ⟨s.toArray⟩ pos).2 = d
          generalize (Utf8.decode ⟨s.toArray⟩ pos).1 = c
          intro hnx hwd hc
          by_cases hok : (c : Int) ≠ 65534 ∧ (c : Int) ≠ 65535 ∧ (32 ≤ (c : Int) ∨ (c : Int) = 9 ∨ (c : Int) = 10 ∨ (c : Int) = 13)
          · rw [okV_true hok, Bool.true_and] at hc
            replace hc := Lib.hid hc
            obtain ⟨q1, q2, q3⟩ := hok
            go_wp2
            all_goals first
              | (exfalso; simp at *; omega)
              | exact ⟨⟨pos + d, b, rfl, hc, by omega⟩, by simp; omega⟩
          · rw [okV_not hok, Bool.false_and] at hc
            subst hc
            go_wp2
            all_goals first
              | (go_ret; exact ⟨rfl, hb1.out.alloc hb1.out.size _⟩)
              | (exfalso; simp at *; omega)
      · have hnx : ∀ ty, (Instr.next (.pointer (some ⟨w1.heap.size, 0, none⟩)) true ty).run Tryd.prog (w1.iter ⟨s.toArray⟩ pos) = _ := fun ty => run_next_end w1 ⟨s.toArray⟩ pos ty hp
        rw [charsV_end s b pos hp] at hc
        subst hc
        go_wp2
        go_ret
        exact ⟨rfl, hb1.out.alloc hb1.out.size _⟩
theorem refSmall_any (s : List UInt8) (w : World) (hs : s.length ≤ 140737488351232) (hU : U8T w) :
    Calls Tryd.prog 55 #[.string ⟨s.toArray⟩] w fun e w' => e = .returned (.bool (fitsP s)) ∧ Below w.heap.size w w' := by
  by_cases h : s.length ≤ 512
  · have e1 : fitsP s = charsP s := by simp [fitsP, h]
    have hb : decide ((s.length : Int) ≤ 512) = true := by simp; omega
    rw [e1]
    replace hU := Lib.hid hU
    go_enter Tryd.func55, Tryd.ntmps55
    go_wp2_with (go_at_call 31; refine (refChars_any s _ hs hU.out).mono ?_; rintro e w1 ⟨rfl, hb1⟩)
    go_ret
    exact ⟨rfl, hb1⟩
  · have e1 : fitsP s = false := by simp [fitsP, h]
    have hb : decide ((s.length : Int) ≤ 512) = false := by simp; omega
    rw [e1]
    replace hU := Lib.hid hU
    go_enter Tryd.func55, Tryd.ntmps55
    go_wp2
    go_ret
    exact ⟨rfl, Below.refl _ _⟩
end Go.Proofs.YtcfkegfddiglcaaDoor
/-
  Names, by the reference (heliographref02.Name). Each string shorter than the reach.
-/
namespace Go.Proofs.YtcfkegfddiglcaaDoor
set_option linter.unusedVariables false
set_option linter.unusedSimpArgs false
open Go.RowKit
attribute [local go_sem] mk_get
set_option maxHeartbeats 4000000 in
theorem refName_any (s : List UInt8) (w : World) (hs : s.length ≤ 140737488351232) :
    Calls Tryd.prog 54 #[.string ⟨s.toArray⟩] w fun e w' => e = .returned (.bool (nameP s)) ∧ w = w' := by
  go_enter Tryd.func54, Tryd.ntmps54
  go_wp2
  go_loop [3] (fun i => ∃ k : Nat, k ≤ s.length ∧ i = .int .i64 k ∧ Hid (nameTo s k)) (fun i => s.length - (intOf i).toNat)
  case atStart => exact ⟨0, Nat.zero_le _, rfl, fun i _ h => absurd h (Nat.not_lt_zero _)⟩
  case round =>
    obtain ⟨k, hk, rfl, HA⟩ := hrel
    by_cases hlt : k < s.length
    · rcases Nat.eq_zero_or_pos k with hk0 | hk0
      · subst hk0
        have z0 : ((0 : Nat) : Int) = 0 := rfl
        rw [z0]
        go_wp2
        all_goals first
          | (go_round
             case rel => exact ⟨1, by omega, by go_num, nameTo_snoc HA.out hlt (by simp only [nameAt, decide_eq_true_eq]; simp at *; omega)⟩
             case measure => simp [intOf]; omega)
          | (go_ret; exact ⟨ret_bool (nameP_no hlt (by simp only [nameAt, decide_eq_false_iff_not]; simp at *; omega)).symm, rfl⟩)
      · have hkz : ((k : Int) == 0) = false := by simp; omega
        go_wp2
        all_goals first
          | (go_round
             case rel => exact ⟨k + 1, by omega, by go_num, nameTo_snoc HA.out hlt (by simp only [nameAt, decide_eq_true_eq]; simp at *; omega)⟩
             case measure => simp [intOf]; omega)
          | (go_ret; exact ⟨ret_bool (nameP_no hlt (by simp only [nameAt, decide_eq_false_iff_not]; simp at *; omega)).symm, rfl⟩)
    · have hE : nameTo s s.length := fun i hi _ => HA.out i hi (by omega)
      have e32 : decide ((s.length : Int) ≤ 32) = decide (s.length ≤ 32) := by rw [decide_eq_decide]; omega
      have e1 : decide (1 ≤ (s.length : Int)) = !(s == []) := by cases s <;> simp; omega
      go_wp2
      all_goals (go_ret; refine ⟨ret_bool ?_, rfl⟩; simp [nameP, hE, e32] at *)
end Go.Proofs.YtcfkegfddiglcaaDoor
/-
  Whether a token is right, by the reference (heliographref04.one). Conditions: no text beyond the reach; the library's tables are as they were laid.
-/
namespace Go.Proofs.YtcfkegfddiglcaaDoor
set_option linter.unusedVariables false
set_option linter.unusedSimpArgs false
open Go.RowKit Go.MapKept
theorem seen_has {al : Ats} {j k : Nat} {x : List UInt8} (h : k < al.length) (hk : k < j) (e : (al[k]'h).1 = x) : (seenOf al j).contains x = true := by
  rw [List.contains_iff_mem]
  unfold seenOf
  rw [List.mem_map]
  refine ⟨al[k], ?_, e⟩
  rw [List.mem_take_iff_getElem]
  exact ⟨k, by omega, rfl⟩
theorem seen_not {al : Ats} {j : Nat} {x : List UInt8} (hj : j ≤ al.length) (h : ∀ m (hm : m < al.length), m < j → (al[m]'hm).1 ≠ x) : (seenOf al j).contains x = false := by
  rw [Bool.eq_false_iff]
  intro hc
  rw [List.contains_iff_mem] at hc
  unfold seenOf at hc
  obtain ⟨p, hp, e⟩ := List.mem_map.1 hc
  obtain ⟨m, hm, e2⟩ := List.mem_take_iff_getElem.1 hp
  exact h m (by omega) (by omega) (by rw [e2]; exact e)
theorem step_no {seen : List (List UInt8)} {al : Ats} {j : Nat} (h : j < al.length) (hc : nameP (al[j]'h).1 = false ∨ fitsP (al[j]'h).2 = false ∨ seen.contains (al[j]'h).1 = true) : attrsP seen (al.drop j) = false := by
  rw [attrsP_step h]
  rcases hc with h | h | h <;> rw [h] <;> simp
theorem step_yes {seen : List (List UInt8)} {al : Ats} {j : Nat} (h : j < al.length) (h1 : nameP (al[j]'h).1 = true) (h2 : fitsP (al[j]'h).2 = true) (h3 : seen.contains (al[j]'h).1 = false) (h8 : seen.length < 8) : attrsP seen (al.drop j) = attrsP (seen ++ [(al[j]'h).1]) (al.drop (j + 1)) := by
  rw [attrsP_step h, h1, h2, h3, decide_eq_true_iff.2 h8]
  simp
set_option maxHeartbeats 2000000 in
theorem one_other (tk : Tk) (sv : Value) (w : World) (h : AtS w sv tk.as) (hk : tk.k ≠ 1 ∧ tk.k ≠ 2 ∧ tk.k ≠ 3) :
    Calls Tryd.prog 44 #[.agg (tkC tk sv)] w fun e w' => e = .returned (.bool (rightT tk)) ∧ Below w.heap.size w w' := by
  obtain ⟨k, n, al, t⟩ := tk
  obtain ⟨ptr, cap, rfl, -⟩ := h
  obtain ⟨k1, k2, k3⟩ := hk
  simp only at k1 k2 k3
  have hr : rightT ⟨k, n, al, t⟩ = false := by simp [rightT, k1, k2, k3]
  rw [hr]
  unfold tkC
  have i1 : (k == 1) = false := by simpa using k1
  have i2 : (k == 2) = false := by simpa using k2
  have i3 : (k == 3) = false := by simpa using k3
  go_enter Tryd.func44, Tryd.ntmps44
  go_wp2_with fail
  go_ret
  exact ⟨rfl, below1 _ _⟩
set_option maxHeartbeats 2000000 in
theorem one_end (tk : Tk) (sv : Value) (w : World) (h : AtS w sv tk.as) (hs : tk.small) (hk : tk.k = 2) :
    Calls Tryd.prog 44 #[.agg (tkC tk sv)] w fun e w' => e = .returned (.bool (rightT tk)) ∧ Below w.heap.size w w' := by
  obtain ⟨k, n, al, t⟩ := tk
  obtain ⟨hn, ht, has, hall⟩ := hs
  obtain ⟨ptr, cap, rfl, -⟩ := h
  simp only at hn ht has hk
  have he : ((al.length : Int) == 0) = al.isEmpty := by cases al with | nil => rfl | cons a r => (rw [beq_eq_false_iff_ne.2 (by simp; omega)]; rfl)
  subst hk
  have hr : rightT ⟨2, n, al, t⟩ = (nameP n && (t == []) && al.isEmpty) := by simp [rightT]
  rw [hr]
  clear hr
  have hN : Hid (∀ W, Calls Tryd.prog 54 #[.string ⟨n.toArray⟩] W fun e w' => e = .returned (.bool (nameP n)) ∧ W = w') := Lib.hid fun W => refName_any n W hn
  generalize al.isEmpty = ae at *
  unfold tkC
  cases hnm : nameP n
  · rw [hnm] at hN
    replace hnm := Lib.hid hnm
    go_enter Tryd.func44, Tryd.ntmps44
    go_wp2_with (go_at_call 54; refine (hN.out _).mono ?_; rintro e w1 ⟨rfl, rfl⟩)
    go_ret
    exact ⟨rfl, below1 _ _⟩
  · rw [hnm] at hN
    replace hnm := Lib.hid hnm
    cases htm : (t == [])
    · go_enter Tryd.func44, Tryd.ntmps44
      go_wp2_with (go_at_call 54; refine (hN.out _).mono ?_; rintro e w1 ⟨rfl, rfl⟩)
      go_ret
      exact ⟨rfl, below1 _ _⟩
    · obtain rfl : t = [] := by simpa using htm
      go_enter Tryd.func44, Tryd.ntmps44
      go_wp2_with (go_at_call 54; refine (hN.out _).mono ?_; rintro e w1 ⟨rfl, rfl⟩)
      go_ret
      exact ⟨by simp [he], below1 _ _⟩
set_option maxHeartbeats 2000000 in
theorem one_chars (tk : Tk) (sv : Value) (w : World) (h : AtS w sv tk.as) (hs : tk.small) (hk : tk.k = 3) (hU : U8T w) :
    Calls Tryd.prog 44 #[.agg (tkC tk sv)] w fun e w' => e = .returned (.bool (rightT tk)) ∧ Below w.heap.size w w' := by
  obtain ⟨k, n, al, t⟩ := tk
  obtain ⟨hn, ht, has, hall⟩ := hs
  obtain ⟨ptr, cap, rfl, -⟩ := h
  simp only at hn ht has hk
  have he : ((al.length : Int) == 0) = al.isEmpty := by cases al with | nil => rfl | cons a r => (rw [beq_eq_false_iff_ne.2 (by simp; omega)]; rfl)
  subst hk
  have hr : rightT ⟨3, n, al, t⟩ = ((n == []) && al.isEmpty && !(t == []) && fitsP t) := by simp [rightT]
  rw [hr]
  clear hr
  have hS : Hid (∀ W, Below w.heap.size w W → Calls Tryd.prog 55 #[.string ⟨t.toArray⟩] W fun e w' => e = .returned (.bool (fitsP t)) ∧ Below W.heap.size W w') := Lib.hid fun W hb => refSmall_any t W ht (hU.below hb)
  replace hU := Lib.hid hU
  unfold tkC
  cases hnm : (n == [])
  · go_enter Tryd.func44, Tryd.ntmps44
    go_wp2_with fail
    go_ret
    exact ⟨rfl, below1 _ _⟩
  · obtain rfl : n = [] := by simpa using hnm
    cases hae : al.isEmpty
    · rw [hae] at he
      replace hae := Lib.hid hae
      go_enter Tryd.func44, Tryd.ntmps44
      go_wp2_with fail
      go_ret
      exact ⟨rfl, below1 _ _⟩
    · rw [hae] at he
      replace hae := Lib.hid hae
      cases htm : (t == [])
      · go_enter Tryd.func44, Tryd.ntmps44
        go_wp2_with (go_at_call 55; refine (hS.out _ (below1 _ _)).mono ?_; rintro e w1 ⟨rfl, hb⟩)
        go_ret
        exact ⟨rfl, below1t hb⟩
      · obtain rfl : t = [] := by simpa using htm
        go_enter Tryd.func44, Tryd.ntmps44
        go_wp2_with fail
        go_ret
        exact ⟨rfl, below1 _ _⟩
set_option maxRecDepth 100000 in
set_option maxHeartbeats 8000000 in
theorem one_begin (tk : Tk) (sv : Value) (w : World) (h : AtS w sv tk.as) (hs : tk.small) (hk : tk.k = 1) (hU : U8T w) :
    Calls Tryd.prog 44 #[.agg (tkC tk sv)] w fun e w' => e = .returned (.bool (rightT tk)) ∧ Below w.heap.size w w' := by
  obtain ⟨k, n, al, t⟩ := tk
  obtain ⟨hn, ht, has, hall⟩ := hs
  obtain ⟨ptr, cap, rfl, hcap, hcapm, hat⟩ := h
  simp only at hn ht has hall hk hcap hat
  subst hk
  have hal9 : (al.length : Int) ≤ 9223372036854775807 := by omega
  have hr : rightT ⟨1, n, al, t⟩ = (attrsP [] al && nameP n && (t == [])) := by simp [rightT]
  rw [hr]
  clear hr
  have hN : Hid (∀ W, Calls Tryd.prog 54 #[.string ⟨n.toArray⟩] W fun e w' => e = .returned (.bool (nameP n)) ∧ W = w') := Lib.hid fun W => refName_any n W hn
  have hNm : Hid (∀ (x : List UInt8) W, x.length ≤ 140737488351232 → Calls Tryd.prog 54 #[.string ⟨x.toArray⟩] W fun e w' => e = .returned (.bool (nameP x)) ∧ W = w') := Lib.hid fun x W hx => refName_any x W hx
  have hSm : Hid (∀ (x : List UInt8) W, x.length ≤ 140737488351232 → Below w.heap.size w W → Calls Tryd.prog 55 #[.string ⟨x.toArray⟩] W fun e w' => e = .returned (.bool (fitsP x)) ∧ Below W.heap.size W w') := Lib.hid fun x W hx hb => refSmall_any x W hx (hU.below hb)
  replace hU := Lib.hid hU
  unfold tkC
  cases hnm : nameP n
  · rw [hnm] at hN
    replace hnm := Lib.hid hnm
    go_enter Tryd.func44, Tryd.ntmps44
    go_wp2_with (go_at_call 54; refine (hN.out _).mono ?_; rintro e w1 ⟨rfl, rfl⟩)
    go_ret
    exact ⟨by simp, below1 _ _⟩
  rw [hnm] at hN
  replace hnm := Lib.hid hnm
  cases htm : (t == [])
  · go_enter Tryd.func44, Tryd.ntmps44
    go_wp2_with (go_at_call 54; refine (hN.out _).mono ?_; rintro e w1 ⟨rfl, rfl⟩)
    go_ret
    exact ⟨by simp, below1 _ _⟩
  obtain rfl : t = [] := by simpa using htm
  clear htm
  simp only [Bool.and_true]
  by_cases h8 : al.length ≤ 8
  · have h8b : decide (8 < (al.length : Int)) = false := by simp; omega
    generalize hR : attrsP [] al = R
    replace hR := Lib.hid hR
    replace hat := Lib.hid hat
    replace hall := Lib.hid hall
    go_enter Tryd.func44, Tryd.ntmps44
    go_wp2_with (go_at_call 54; refine (hN.out _).mono ?_; rintro e w1 ⟨rfl, rfl⟩)
    go_loopw [3] (fun s3 wr => ∃ j : Nat, j ≤ al.length ∧ s3 = .int .i64 j ∧ Hid (attrsP (seenOf al j) (al.drop j) = R) ∧ Hid (wr.heap[w.heap.size]? = some (.cells #[.int .u8 1, .string ⟨n.toArray⟩, .slice ptr al.length cap, .string ⟨#[]⟩] 37)) ∧ Hid (Below w.heap.size w wr)) (fun s3 _ => al.length - (intOf s3).toNat)
    case atStart =>
      exact ⟨0, by omega, rfl, hR, Lib.hid (heap_alloc w _).1, Lib.hid (below1 _ _)⟩
    case round =>
      obtain ⟨j, hj, rfl, hA, hO, hB⟩ := hrel
      obtain ⟨xc, xf, xl⟩ := obj_cells hO.out
      by_cases hlt : j < al.length
      · obtain ⟨ab, ao, rfl, hab, hacell⟩ := hat.out (by omega)
        obtain ⟨a0, a1⟩ := hacell j hlt
        have hji : (j : Int) < al.length := by omega
        have hsz := hB.out.size
        have hwr : ab < wr.heap.size := by omega
        have hcl : Hid (∀ m (hm : m < al.length), wr.cell? ⟨ab, ao + m * 2, none⟩ = some (.string ⟨(al[m]'hm).1.toArray⟩)) := Lib.hid fun m hm => ((bat hB.out ab hab).1 _).trans (hacell m hm).1
        replace a0 : wr.cell? ⟨ab, ao + j * 2, none⟩ = _ := ((bat hB.out ab hab).1 _).trans a0
        replace a1 : wr.cell? ⟨ab, ao + j * 2 + 1, none⟩ = _ := ((bat hB.out ab hab).1 _).trans a1
        have hsm := hall.out _ (List.getElem_mem hlt)
        have hno := step_no (seen := seenOf al j) hlt
        have hys := step_yes (seen := seenOf al j) hlt
        have hsl := seenOf_len hj
        have hsn := seenOf_snoc hlt
        rw [hA.out] at hno hys
        rw [← hsn] at hys
        have hdup : Hid (∀ m (hm : m < al.length), m < j → (al[m]'hm).1 = (al[j]'hlt).1 → R = false) := Lib.hid fun m hm hmj e => hno (.inr (.inr (seen_has hm hmj e)))
        have hnd : Hid ((∀ m (hm : m < al.length), m < j → (al[m]'hm).1 ≠ (al[j]'hlt).1) → (seenOf al j).contains (al[j]'hlt).1 = false) := Lib.hid fun h => seen_not hj h
        clear hacell hsn
        generalize al[j] = p at a0 a1 hsm hno hys hdup hnd
        obtain ⟨pn, pv⟩ := p
        simp only at a0 a1 hsm hno hys hdup hnd
        have hN2 : Hid (∀ W, Calls Tryd.prog 54 #[.string ⟨pn.toArray⟩] W fun e w' => e = .returned (.bool (nameP pn)) ∧ W = w') := Lib.hid fun W => hNm.out pn W hsm.1
        have hS2 : Hid (∀ W, Below w.heap.size w W → Calls Tryd.prog 55 #[.string ⟨pv.toArray⟩] W fun e w' => e = .returned (.bool (fitsP pv)) ∧ Below W.heap.size W w') := Lib.hid fun W hb => hSm.out pv W hsm.2 hb
        replace hno := Lib.hid hno
        replace hys := Lib.hid hys
        replace hsm := Lib.hid hsm
        cases hpn : nameP pn
        · rw [hpn] at hN2
          have hRf := Lib.hid (hno.out (.inl hpn))
          replace hpn := Lib.hid hpn
          go_wp2_with (go_at_call 54; refine (hN2.out _).mono ?_; rintro e w1 ⟨rfl, rfl⟩)
          go_ret
          exact ⟨by rw [hRf.out]; rfl, hB.out⟩
        rw [hpn] at hN2
        cases hpv : fitsP pv
        · rw [hpv] at hS2
          have hRf := Lib.hid (hno.out (.inr (.inl hpv)))
          replace hpn := Lib.hid hpn
          replace hpv := Lib.hid hpv
          go_wp2_with (first
            | (go_at_call 55; refine (hS2.out _ hB.out).mono ?_; rintro e w2 ⟨rfl, hb2⟩; replace hb2 := Lib.hid hb2)
            | (go_at_call 54; refine (hN2.out _).mono ?_; rintro e w1 ⟨rfl, rfl⟩))
          go_ret
          exact ⟨by rw [hRf.out]; rfl, belowT hB.out hb2.out⟩
        rw [hpv] at hS2
        have hys2 := Lib.hid (fun h => (hys.out hpn hpv h (by rw [hsl]; omega)))
        replace hpn := Lib.hid hpn
        replace hpv := Lib.hid hpv
        clear hno hys
        go_wp2_with (first
          | (go_at_call 55; refine (hS2.out _ hB.out).mono ?_; rintro e w2 ⟨rfl, hb2⟩; replace hb2 := Lib.hid hb2)
          | (go_at_call 54; refine (hN2.out _).mono ?_; rintro e w1 ⟨rfl, rfl⟩))
        have hb2s := hb2.out.size
        have xl2 : w.heap.size < w2.heap.size := by omega
        have hwr2 : ab < w2.heap.size := by omega
        have hO2 := Lib.hid ((hb2.out.block _ xl).trans hO.out)
        have hcl2 : Hid (∀ m (hm : m < al.length), w2.cell? ⟨ab, ao + m * 2, none⟩ = some (.string ⟨(al[m]'hm).1.toArray⟩)) := Lib.hid fun m hm => ((bat hb2.out ab hwr).1 _).trans (hcl.out m hm)
        have b0 : w2.cell? ⟨ab, ao + j * 2, none⟩ = some (.string ⟨pn.toArray⟩) := ((bat hb2.out ab hwr).1 _).trans a0
        have hB2 := Lib.hid (belowT hB.out hb2.out)
        replace hcl := hcl2
        clear hcl2 a0 a1 xc xf xl hO hb2 hB
        obtain ⟨xc, xf, xl⟩ := obj_cells hO2.out
        replace b0 := Lib.hid b0
        go_loopw [4] (fun s4 wx => ∃ k : Nat, k ≤ j ∧ s4 = .int .i64 k ∧ Hid (∀ m (hm : m < al.length), m < k → (al[m]'hm).1 ≠ pn) ∧ Hid (Below w2.heap.size w2 wx)) (fun s4 _ => j - (intOf s4).toNat)
        case atStart =>
          exact ⟨0, by omega, rfl, Lib.hid (fun m hm h => absurd h (by omega)), Lib.hid (Below.refl _ _)⟩
        case round =>
          obtain ⟨k, hkj, rfl, hD, hX⟩ := hrel
          obtain ⟨yc, yf⟩ := bat hX.out w.heap.size xl
          obtain ⟨zc, zf⟩ := bat hX.out ab hwr2
          by_cases hkl : k < j
          · have hkl2 : k < al.length := by omega
            have hki : (k : Int) < j := by omega
            have hki2 : (k : Int) < al.length := by omega
            have e0 := hcl.out k hkl2
            have hdk := fun e => hdup.out k hkl2 hkl e
            have hDk := fun (e : (al[k]'hkl2).1 ≠ pn) m (hm : m < al.length) (h : m < k + 1) => (by
              by_cases q : m = k
              · subst q; exact e
              · exact hD.out m hm (by omega) : (al[m]'hm).1 ≠ pn)
            generalize (al[k]'hkl2).1 = pk at e0 hdk hDk
            replace hdk := Lib.hid hdk
            replace hDk := Lib.hid hDk
            have f0 : wr.drew.cell? ⟨ab, ao + k * 2, none⟩ = some (.string ⟨pk.toArray⟩) := (zc _).trans e0
            have f1 : wr.drew.cell? ⟨ab, ao + j * 2, none⟩ = some (.string ⟨pn.toArray⟩) := (zc _).trans b0.out
            have f2 : wr.drew.cell? ⟨w.heap.size, 2, none⟩ = some (.slice (some ⟨ab, ao, none⟩) al.length cap) := (yc _).trans (xc 2)
            go_wp2_with fail
            by_cases he : pk = pn
            · subst he
              have hRf := Lib.hid (hdk.out rfl)
              refine wp_region_float (by kernel_rfl) (by kernel_rfl) (fun W => W = wr.drew) rfl ?_
              simp only [List.toList_toArray]
              repeat (first
                | (apply Flo.val; · rfl
                   · (rintro W rfl; go_simp; with_reducible rfl)
                   simp only [Act.put, List.setIfInBounds_toArray, List.set_cons_zero, List.set_cons_succ])
                | fail)
              rintro W rfl
              go_wp2_with fail
              go_ret
              exact ⟨by rw [hRf.out]; rfl, (belowT hB2.out hX.out).drew⟩
            · have he2 : (pk == pn) = false := by simpa using he
              have hDn := Lib.hid (hDk.out he)
              clear he
              refine wp_region_float (by kernel_rfl) (by kernel_rfl) (fun W => W = wr.drew) rfl ?_
              simp only [List.toList_toArray]
              repeat (first
                | (apply Flo.val; · rfl
                   · (rintro W rfl; go_simp; with_reducible rfl)
                   simp only [Act.put, List.setIfInBounds_toArray, List.set_cons_zero, List.set_cons_succ])
                | fail)
              rintro W rfl
              go_wp2_with fail
              exact ⟨⟨k + 1, by omega, by simp, hDn, Lib.hid hX.out.drew⟩, by simp [intOf]; omega⟩
          · obtain rfl : k = j := by omega
            have hdn := hys2.out (hnd.out (fun m hm h => hD.out m hm h))
            have hdn2 := Lib.hid hdn.symm
            have hO3 := Lib.hid ((hX.out.block _ xl).trans hO2.out)
            go_wp2_with fail
            exact ⟨⟨k + 1, by omega, by simp, hdn2, hO3, Lib.hid (belowT hB2.out hX.out)⟩, by simp [intOf]; omega⟩
      · obtain rfl : j = al.length := by omega
        have hA2 := hA.out
        rw [List.drop_length] at hA2
        go_wp2_with fail
        go_ret
        exact ⟨by rw [← hA2]; rfl, hB.out⟩
  · have h8b : decide (8 < (al.length : Int)) = true := by simp; omega
    have hR : attrsP [] al = false := by
      cases ha : attrsP [] al with
      | false => rfl
      | true => have := (attrsP_each [] al ha (by simp)).1; simp at this; omega
    rw [hR]
    replace hR := Lib.hid hR
    go_enter Tryd.func44, Tryd.ntmps44
    go_wp2_with (go_at_call 54; refine (hN.out _).mono ?_; rintro e w1 ⟨rfl, rfl⟩)
    go_ret
    exact ⟨rfl, below1 _ _⟩
theorem refOne_any (tk : Tk) (sv : Value) (w : World) (h : AtS w sv tk.as) (hs : tk.small) (hU : U8T w) :
    Calls Tryd.prog 44 #[.agg (tkC tk sv)] w fun e w' => e = .returned (.bool (rightT tk)) ∧ Below w.heap.size w w' := by
  by_cases h1 : tk.k = 1
  · exact one_begin tk sv w h hs h1 hU
  by_cases h2 : tk.k = 2
  · exact one_end tk sv w h hs h2
  by_cases h3 : tk.k = 3
  · exact one_chars tk sv w h hs h3 hU
  · exact one_other tk sv w h ⟨h1, h2, h3⟩
end Go.Proofs.YtcfkegfddiglcaaDoor
/-
  Whether tokens are right, by the reference (heliographref04.Right). Conditions: no text beyond the reach; the library's tables are as they were laid.
-/
namespace Go.Proofs.YtcfkegfddiglcaaDoor
set_option linter.unusedVariables false
set_option linter.unusedSimpArgs false
open Go.RowKit Go.MapKept
theorem right_stop {l : List Tk} {i : Nat} (hi : i < l.length) (h : opsTo l (i + 1) = none) : rightL l = false := by
  have := opsTo_none h (l.length - (i + 1))
  rw [show i + 1 + (l.length - (i + 1)) = l.length by omega] at this
  unfold rightL
  rw [this]
  simp
theorem right_at {l : List Tk} {op : List (List UInt8)} (h64 : l.length ≤ 64) (h : opsTo l l.length = some op) : rightL l = (op == []) := by
  unfold rightL
  rw [h]
  simp [h64]
theorem ops_step {l : List Tk} {i : Nat} {op : List (List UInt8)} (hi : i < l.length) (h : opsTo l i = some op) : opsTo l (i + 1) = stepT (prevK l i) op (l[i]'hi) := by
  rw [opsTo, h, List.getElem?_eq_getElem hi]
set_option maxRecDepth 100000 in
set_option maxHeartbeats 8000000 in
theorem refRight_any (tv : Value) (l : List Tk) (w : World) (hT : TkS w tv l) (hsm : ∀ tk ∈ l, tk.small) (hU : U8T w) :
    Calls Tryd.prog 28 #[tv] w fun e w' => e = .returned (.bool (rightL l)) ∧ Below w.heap.size w w' := by
  obtain ⟨i0, hi, hz0, hz1, hz2⟩ := info_parts infoS
  obtain ⟨vp, vc, rfl, hc1, hc2, hcell⟩ := hT
  by_cases h64 : l.length ≤ 64
  · have h64b : decide (64 < (l.length : Int)) = false := by simp; omega
    have hn9 : (l.length : Int) ≤ 9223372036854775807 := by omega
    have hEnd := fun op (h : opsTo l l.length = some op) => right_at h64 h
    have hStop := fun i (hi : i < l.length) (h : opsTo l (i + 1) = none) => right_stop hi h
    have hOne : Hid (∀ tk sv W, tk ∈ l → AtS W sv tk.as → Below w.heap.size w W → Calls Tryd.prog 44 #[.agg (tkC tk sv)] W fun e w' => e = .returned (.bool (rightT tk)) ∧ Below W.heap.size W w') := Lib.hid fun tk sv W h1 h2 h3 => refOne_any tk sv W h2 (hsm tk h1) (hU.below h3)
    generalize hRL : rightL l = RL at *
    replace hRL := Lib.hid hRL
    replace hEnd := Lib.hid hEnd
    replace hStop := Lib.hid hStop
    replace hU := Lib.hid hU
    replace hsm := Lib.hid hsm
    replace hcell := Lib.hid hcell
    go_enter Tryd.func28, Tryd.ntmps28
    go_wp2_with fail
    go_loopw [3, 4] (fun s3 s4 wr => ∃ (i : Nat) (op : List (List UInt8)), i ≤ l.length ∧ s4 = .int .i64 i ∧ Hid (opsTo l i = some op) ∧ op.length ≤ 8 ∧ Hid (wr.ownsRow w.heap.size 9 1 s3 op.length (nameCells op)) ∧ Hid (Below w.heap.size w wr)) (fun _ s4 _ => l.length - (intOf s4).toNat)
    case atStart =>
      exact ⟨0, [], by omega, rfl, Lib.hid rfl, by simp, Lib.hid ⟨rfl, .inl ⟨rfl, rfl⟩⟩, Lib.hid (Below.refl _ _)⟩
    case round =>
      obtain ⟨i, op, hil, rfl, hop, h8, hO, hB⟩ := hrel
      obtain ⟨sp, sc, rfl⟩ := owns_shape hO.out
      by_cases hlt : i < l.length
      · obtain ⟨b, o, rfl, hb, hcc⟩ := hcell.out (by omega)
        obtain ⟨sv, c0, c1, c2, c3, hA⟩ := hcc i hlt
        have hsz := hB.out.size
        have hbr : b < wr.heap.size := by omega
        obtain ⟨kc, kf⟩ := bat hB.out b hb
        replace c0 := (kc _).trans c0
        replace c1 := (kc _).trans c1
        replace c2 := (kc _).trans c2
        replace c3 := (kc _).trans c3
        have hA2 := hA.below hB.out
        have hstep := ops_step hlt hop.out
        have hmem := List.getElem_mem hlt
        have hst0 := hStop.out i hlt
        have hpr : ∀ m, i = m + 1 → ∃ kk : Int, wr.cell? ⟨b, o + m * 4, none⟩ = some (.int .u8 kk) ∧ prevK l i = kk := fun m e => by
          obtain ⟨sv', d0, -⟩ := hcc m (by omega)
          refine ⟨_, (kc _).trans d0, ?_⟩
          unfold prevK
          rw [if_neg (by omega), show i - 1 = m by omega, List.getElem?_eq_getElem (by omega)]
          rfl
        clear hcc kc kf hA
        have hii : (i : Int) < l.length := by omega
        generalize l[i] = tk at c0 c1 c2 c3 hA2 hstep hmem
        obtain ⟨k, n, al, t⟩ := tk
        simp only at c0 c1 c2 c3 hA2
        have hsvs := hA2
        obtain ⟨ap, ac, rfl, -⟩ := hsvs
        have hO1 := Lib.hid (hOne.out ⟨k, n, al, t⟩ (.slice ap al.length ac) (wr.alloc (.cells #[.int .u8 k, .string ⟨n.toArray⟩, .slice ap al.length ac, .string ⟨t.toArray⟩] 37)) hmem (hA2.below (below1 _ _)) (belowT hB.out (below1 _ _)))
        replace hA2 := Lib.hid hA2
        cases hrt : rightT ⟨k, n, al, t⟩
        · have hnone : opsTo l (i + 1) = none := by rw [hstep]; unfold stepT; rw [if_pos hrt]
          have hRf := Lib.hid (hst0 hnone)
          rw [hrt] at hO1
          clear hnone hstep hst0 hpr
          replace hrt := Lib.hid hrt
          unfold tkC at hO1
          go_wp2_with (go_at_call 44; refine hO1.out.mono ?_; rintro e w1 ⟨rfl, hb1⟩; replace hb1 := Lib.hid hb1)
          go_ret
          exact ⟨by rw [hRf.out]; rfl, belowT (belowT hB.out (below1 _ _)) hb1.out⟩
        · have hk3 := right_kind hrt
          rw [hrt] at hO1
          unfold stepT at hstep
          rw [if_neg (by rw [hrt]; simp)] at hstep
          simp only at hk3 hstep
          replace hrt := Lib.hid hrt
          unfold tkC at hO1
          replace hst0 := Lib.hid hst0
          rcases hk3 with rfl | rfl | rfl
          · have hstep1 : opsTo l (i + 1) = if op.length < 8 then some (op ++ [n]) else none := by
              rw [hstep]; simp
            clear hstep
            by_cases h7 : op.length < 8
            · have h7b : decide (8 ≤ (op.length : Int)) = false := by simp; omega
              rw [if_pos h7] at hstep1
              replace hstep1 := Lib.hid hstep1
              clear hpr hst0
              go_wp2_with (first
                | (have m0 := hO2; at_builtin; refine wpList_append_own _ rfl _ _ 70 rfl w.heap.size 9 i0 _ 1 16 Tryd.underlying70 hi hz0 hz1 hz2 rfl (by decide) _ _ _ rfl (hO2.out.alloc _) ⟨w1.heap.size, 0, none⟩ 1 1 [.string ⟨n.toArray⟩] rfl rfl (cell_one_new _ _ _) (by simp [Value.oneCell']) (by unfold maxLen; omega) (by omega) (by have := hB1.out.size; simp only [World.size_alloc]; omega) ?_
                   intro v' w3 hO3 hg3 _
                   have hO4 : Hid (w3.ownsRow w.heap.size 9 1 v' (op ++ [n]).length (nameCells (op ++ [n]))) := Lib.hid (by simpa [nameCells] using hO3)
                   have hB3 := Lib.hid ((hB1.out.alloc hB1.out.size (.cells #[.string ⟨n.toArray⟩] 9)).grown hg3 (by have := hB1.out.size; simp only [World.size_alloc]; omega) (fun k hk => ((hO2.out.alloc (.cells #[.string ⟨n.toArray⟩] 9)).lt k hk).1))
                   clear hO3 hg3)
                | (go_at_call 44; refine hO1.out.mono ?_; rintro e w1 ⟨rfl, hb1⟩; obtain ⟨tc, tf⟩ := bat hb1 wr.heap.size (by simp); have tl := Nat.lt_of_lt_of_le (by simp : wr.heap.size < (wr.alloc (.cells #[.int .u8 1, .string ⟨n.toArray⟩, .slice ap al.length ac, .string ⟨t.toArray⟩] 37)).heap.size) hb1.size; have hO2 := Lib.hid (owns_keep (hO.out.alloc (.cells #[.int .u8 1, .string ⟨n.toArray⟩, .slice ap al.length ac, .string ⟨t.toArray⟩] 37)) (fun g _ h => hb1.block g h)); have hB1 := Lib.hid (belowT (belowT hB.out (below1 _ _)) hb1);  replace hb1 := Lib.hid hb1))
              refine ⟨⟨i + 1, op ++ [n], by omega, by simp, hstep1, by simp; omega, hO4, hB3⟩, by simp [intOf]; omega⟩
            · have h7b : decide (8 ≤ (op.length : Int)) = true := by simp; omega
              rw [if_neg h7] at hstep1
              have hRf := Lib.hid (hst0.out hstep1)
              clear hstep1 hpr hst0
              go_wp2_with (go_at_call 44; refine hO1.out.mono ?_; rintro e w1 ⟨rfl, hb1⟩; obtain ⟨tc, tf⟩ := bat hb1 wr.heap.size (by simp); have tl := Nat.lt_of_lt_of_le (by simp : wr.heap.size < (wr.alloc (.cells #[.int .u8 1, .string ⟨n.toArray⟩, .slice ap al.length ac, .string ⟨t.toArray⟩] 37)).heap.size) hb1.size; have hO2 := Lib.hid (owns_keep (hO.out.alloc (.cells #[.int .u8 1, .string ⟨n.toArray⟩, .slice ap al.length ac, .string ⟨t.toArray⟩] 37)) (fun g _ h => hb1.block g h)); have hB1 := Lib.hid (belowT (belowT hB.out (below1 _ _)) hb1);  replace hb1 := Lib.hid hb1)
              go_ret
              exact ⟨by rw [hRf.out]; rfl, hB1.out⟩
          · have hstep1 : opsTo l (i + 1) = if 0 < op.length ∧ op.getD (op.length - 1) [] = n then some (op.take (op.length - 1)) else none := by
              rw [hstep]; simp
            clear hstep hpr
            by_cases h0 : op.length = 0
            · have h0b : ((op.length : Int) == 0) = true := by rw [beq_iff_eq]; omega
              rw [if_neg (by omega)] at hstep1
              have hRf := Lib.hid (hst0.out hstep1)
              clear hstep1 hst0
              go_wp2_with (go_at_call 44; refine hO1.out.mono ?_; rintro e w1 ⟨rfl, hb1⟩; obtain ⟨tc, tf⟩ := bat hb1 wr.heap.size (by simp); have tl := Nat.lt_of_lt_of_le (by simp : wr.heap.size < (wr.alloc (.cells #[.int .u8 2, .string ⟨n.toArray⟩, .slice ap al.length ac, .string ⟨t.toArray⟩] 37)).heap.size) hb1.size; have hO2 := Lib.hid (owns_keep (hO.out.alloc (.cells #[.int .u8 2, .string ⟨n.toArray⟩, .slice ap al.length ac, .string ⟨t.toArray⟩] 37)) (fun g _ h => hb1.block g h)); have hB1 := Lib.hid (belowT (belowT hB.out (below1 _ _)) hb1); replace hb1 := Lib.hid hb1)
              refine wp_region_float (by kernel_rfl) (by kernel_rfl) (fun W => W = w1.drew) rfl ?_
              simp only [List.toList_toArray]
              repeat (first
                | (apply Flo.skip; · rfl
                   simp only [Act.put, List.setIfInBounds_toArray, List.set_cons_zero, List.set_cons_succ])
                | (apply Flo.val; · rfl
                   · (rintro W rfl; go_simp; with_reducible rfl)
                   simp only [Act.put, List.setIfInBounds_toArray, List.set_cons_zero, List.set_cons_succ])
                | fail)
              rintro W rfl
              go_wp2_with fail
              go_ret
              exact ⟨by rw [hRf.out]; rfl, hB1.out.drew⟩
            · have h0b : ((op.length : Int) == 0) = false := by rw [beq_eq_false_iff_ne]; omega
              obtain ⟨m, hm⟩ : ∃ m, op.length = m + 1 := ⟨op.length - 1, by omega⟩
              have hlm : (op.length : Int) - 1 = (m : Int) := by omega
              rw [show op.length - 1 = m by omega] at hstep1
              have hgd : op.getD m [] = op[m]'(by omega) := by simp [List.getD, List.getElem?_eq_getElem (show m < op.length by omega)]
              rw [hgd] at hstep1
              obtain ⟨g, hsp, hle⟩ : ∃ g, sp = some ⟨g, 0, none⟩ ∧ op.length ≤ sc := by
                rcases hO.out.2 with ⟨hv, h9⟩ | ⟨g, cap, cur, hv, _, _, h9, -⟩
                · omega
                · injection hv with e1 _ e3; exact ⟨g, e1, by rw [e3]; exact h9⟩
              subst hsp
              have hms : (m : Int) ≤ sc := by omega
              have hix : ∀ W, (Instr.indexAt 70 (.slice (some ⟨g, 0, none⟩) (m + 1) sc) (.int .i64 (m : Int))).run Tryd.prog W = .ok (.pointer (some ⟨g, m, none⟩)) W := fun W => ix_top g m sc W
              have hwm := wrapM m (by omega)
              have hm0 : ((m : Int) + 1 == 0) = false := by rw [beq_eq_false_iff_ne]; omega
              have hTop : Hid (∀ W : World, W.ownsRow w.heap.size 9 1 (.slice (some ⟨g, 0, none⟩) op.length sc) op.length (nameCells op) → W.cell? ⟨g, m, none⟩ = some (.string ⟨(op[m]'(by omega)).toArray⟩)) := Lib.hid fun W h => by
                have := World.ownsRow.cells h (g := g) rfl m (.string ⟨(op[m]'(by omega)).toArray⟩) (by simp [nameCells])
                simpa [Addr.add_lit] using this
              have hTk : Hid (∀ W : World, W.ownsRow w.heap.size 9 1 (.slice (some ⟨g, 0, none⟩) op.length sc) op.length (nameCells op) → W.drew.ownsRow w.heap.size 9 1 (.slice (some ⟨g, 0, none⟩) m sc) (op.take m).length (nameCells (op.take m))) := Lib.hid fun W h => owns_take (by omega) h
              have htl : (op.take m).length = m := by simp; omega
              generalize op[m]'(by omega) = top at hstep1 hTop
              by_cases hne : top = n
              · have hne2 := hne.symm
                clear hne
                subst hne2
                rw [if_pos ⟨by omega, rfl⟩] at hstep1
                replace hstep1 := Lib.hid hstep1
                clear hst0 hgd
                go_wp2_with (go_at_call 44; refine hO1.out.mono ?_; rintro e w1 ⟨rfl, hb1⟩; obtain ⟨tc, tf⟩ := bat hb1 wr.heap.size (by simp); have tl := Nat.lt_of_lt_of_le (by simp : wr.heap.size < (wr.alloc (.cells #[.int .u8 2, .string ⟨n.toArray⟩, .slice ap al.length ac, .string ⟨t.toArray⟩] 37)).heap.size) hb1.size; have hO2 := Lib.hid (owns_keep (hO.out.alloc (.cells #[.int .u8 2, .string ⟨n.toArray⟩, .slice ap al.length ac, .string ⟨t.toArray⟩] 37)) (fun g _ h => hb1.block g h)); have hB1 := Lib.hid (belowT (belowT hB.out (below1 _ _)) hb1); replace hb1 := Lib.hid hb1)
                have hcc := hTop.out _ hO2.out
                refine wp_region_float (by kernel_rfl) (by kernel_rfl) (fun W => W = w1.drew) rfl ?_
                simp only [List.toList_toArray]
                repeat (first
                  | (apply Flo.skip; · rfl
                     simp only [Act.put, List.setIfInBounds_toArray, List.set_cons_zero, List.set_cons_succ])
                  | (apply Flo.val; · rfl
                     · (rintro W rfl; first | (go_simp; with_reducible rfl) | exact exec_index rfl rfl rfl (hix _))
                     simp only [Act.put, List.setIfInBounds_toArray, List.set_cons_zero, List.set_cons_succ])
                  | fail)
                rintro W rfl
                have hT2 := Lib.hid (hTk.out _ hO2.out)
                go_wp2_with fail
                refine ⟨⟨i + 1, op.take m, by omega, by simp, hstep1, by omega, ?_, Lib.hid hB1.out.drew⟩, by simp [intOf]; omega⟩
                have := hT2.out
                rw [htl] at this ⊢
                exact Lib.hid this
              · have hne2 : (top == n) = false := by simpa using hne
                rw [if_neg (by simp [hne])] at hstep1
                have hRf := Lib.hid (hst0.out hstep1)
                clear hstep1 hst0 hgd hne
                go_wp2_with (go_at_call 44; refine hO1.out.mono ?_; rintro e w1 ⟨rfl, hb1⟩; obtain ⟨tc, tf⟩ := bat hb1 wr.heap.size (by simp); have tl := Nat.lt_of_lt_of_le (by simp : wr.heap.size < (wr.alloc (.cells #[.int .u8 2, .string ⟨n.toArray⟩, .slice ap al.length ac, .string ⟨t.toArray⟩] 37)).heap.size) hb1.size; have hO2 := Lib.hid (owns_keep (hO.out.alloc (.cells #[.int .u8 2, .string ⟨n.toArray⟩, .slice ap al.length ac, .string ⟨t.toArray⟩] 37)) (fun g _ h => hb1.block g h)); have hB1 := Lib.hid (belowT (belowT hB.out (below1 _ _)) hb1); replace hb1 := Lib.hid hb1)
                have hcc := hTop.out _ hO2.out
                refine wp_region_float (by kernel_rfl) (by kernel_rfl) (fun W => W = w1.drew) rfl ?_
                simp only [List.toList_toArray]
                repeat (first
                  | (apply Flo.skip; · rfl
                     simp only [Act.put, List.setIfInBounds_toArray, List.set_cons_zero, List.set_cons_succ])
                  | (apply Flo.val; · rfl
                     · (rintro W rfl; first | (go_simp; with_reducible rfl) | exact exec_index rfl rfl rfl (hix _))
                     simp only [Act.put, List.setIfInBounds_toArray, List.set_cons_zero, List.set_cons_succ])
                  | fail)
                rintro W rfl
                go_wp2_with fail
                go_ret
                exact ⟨by rw [hRf.out]; rfl, hB1.out.drew⟩
          · have hstep1 : opsTo l (i + 1) = if 0 < op.length ∧ prevK l i ≠ 3 then some op else none := by
              rw [hstep]; simp
            clear hstep
            by_cases h0 : op.length = 0
            · have h0b : ((op.length : Int) == 0) = true := by rw [beq_iff_eq]; omega
              rw [if_neg (by omega)] at hstep1
              have hRf := Lib.hid (hst0.out hstep1)
              clear hstep1 hpr hst0
              go_wp2_with (go_at_call 44; refine hO1.out.mono ?_; rintro e w1 ⟨rfl, hb1⟩; obtain ⟨tc, tf⟩ := bat hb1 wr.heap.size (by simp); have tl := Nat.lt_of_lt_of_le (by simp : wr.heap.size < (wr.alloc (.cells #[.int .u8 3, .string ⟨n.toArray⟩, .slice ap al.length ac, .string ⟨t.toArray⟩] 37)).heap.size) hb1.size; have hO2 := Lib.hid (owns_keep (hO.out.alloc (.cells #[.int .u8 3, .string ⟨n.toArray⟩, .slice ap al.length ac, .string ⟨t.toArray⟩] 37)) (fun g _ h => hb1.block g h)); have hB1 := Lib.hid (belowT (belowT hB.out (below1 _ _)) hb1);  replace hb1 := Lib.hid hb1)
              go_ret
              exact ⟨by rw [hRf.out]; rfl, hB1.out⟩
            · have h0b : ((op.length : Int) == 0) = false := by rw [beq_eq_false_iff_ne]; omega
              rcases Nat.eq_zero_or_pos i with hi0 | hi0
              · subst hi0
                rw [if_pos ⟨by omega, by simp [prevK]⟩] at hstep1
                replace hstep1 := Lib.hid hstep1
                clear hpr hst0
                have z0 : ((0 : Nat) : Int) = 0 := rfl
                rw [z0] at hii ⊢
                simp only [Nat.zero_mul, Nat.add_zero] at c0 c1 c2 c3
                go_wp2_with (go_at_call 44; refine hO1.out.mono ?_; rintro e w1 ⟨rfl, hb1⟩; obtain ⟨tc, tf⟩ := bat hb1 wr.heap.size (by simp); have tl := Nat.lt_of_lt_of_le (by simp : wr.heap.size < (wr.alloc (.cells #[.int .u8 3, .string ⟨n.toArray⟩, .slice ap al.length ac, .string ⟨t.toArray⟩] 37)).heap.size) hb1.size; have hO2 := Lib.hid (owns_keep (hO.out.alloc (.cells #[.int .u8 3, .string ⟨n.toArray⟩, .slice ap al.length ac, .string ⟨t.toArray⟩] 37)) (fun g _ h => hb1.block g h)); have hB1 := Lib.hid (belowT (belowT hB.out (below1 _ _)) hb1);  replace hb1 := Lib.hid hb1)
                refine ⟨⟨1, op, by omega, by simp, hstep1, h8, hO2, hB1⟩, by simp [intOf]; omega⟩
              · obtain ⟨m, rfl⟩ : ∃ m, i = m + 1 := ⟨i - 1, by omega⟩
                obtain ⟨kk, d0, hpk⟩ := hpr m rfl
                rw [hpk] at hstep1
                have i1 : ((m + 1 : Nat) : Int) = (m : Int) + 1 := by omega
                have hmm : (m : Int) < l.length := by omega
                have hmp : 0 < (m : Int) + 1 := by omega
                by_cases h3 : kk = 3
                · subst h3
                  rw [if_neg (by simp)] at hstep1
                  have hRf := Lib.hid (hst0.out hstep1)
                  clear hstep1 hpr hst0
                  go_wp2_with (go_at_call 44; refine hO1.out.mono ?_; rintro e w1 ⟨rfl, hb1⟩; obtain ⟨tc, tf⟩ := bat hb1 wr.heap.size (by simp); have tl := Nat.lt_of_lt_of_le (by simp : wr.heap.size < (wr.alloc (.cells #[.int .u8 3, .string ⟨n.toArray⟩, .slice ap al.length ac, .string ⟨t.toArray⟩] 37)).heap.size) hb1.size; have hO2 := Lib.hid (owns_keep (hO.out.alloc (.cells #[.int .u8 3, .string ⟨n.toArray⟩, .slice ap al.length ac, .string ⟨t.toArray⟩] 37)) (fun g _ h => hb1.block g h)); have hB1 := Lib.hid (belowT (belowT hB.out (below1 _ _)) hb1); have dd0 := ((bat hb1 b (by simp; omega)).1 (o + m * 4)); have hbl := Nat.lt_of_lt_of_le (by simp; omega : b < (wr.alloc (.cells #[.int .u8 3, .string ⟨n.toArray⟩, .slice ap al.length ac, .string ⟨t.toArray⟩] 37)).heap.size) hb1.size; replace hb1 := Lib.hid hb1)
                  go_ret
                  exact ⟨by rw [hRf.out]; rfl, hB1.out⟩
                · have h3b : (kk == 3) = false := by simpa using h3
                  rw [if_pos ⟨by omega, h3⟩] at hstep1
                  replace hstep1 := Lib.hid hstep1
                  clear hpr hst0
                  go_wp2_with (go_at_call 44; refine hO1.out.mono ?_; rintro e w1 ⟨rfl, hb1⟩; obtain ⟨tc, tf⟩ := bat hb1 wr.heap.size (by simp); have tl := Nat.lt_of_lt_of_le (by simp : wr.heap.size < (wr.alloc (.cells #[.int .u8 3, .string ⟨n.toArray⟩, .slice ap al.length ac, .string ⟨t.toArray⟩] 37)).heap.size) hb1.size; have hO2 := Lib.hid (owns_keep (hO.out.alloc (.cells #[.int .u8 3, .string ⟨n.toArray⟩, .slice ap al.length ac, .string ⟨t.toArray⟩] 37)) (fun g _ h => hb1.block g h)); have hB1 := Lib.hid (belowT (belowT hB.out (below1 _ _)) hb1); have dd0 := ((bat hb1 b (by simp; omega)).1 (o + m * 4)); have hbl := Nat.lt_of_lt_of_le (by simp; omega : b < (wr.alloc (.cells #[.int .u8 3, .string ⟨n.toArray⟩, .slice ap al.length ac, .string ⟨t.toArray⟩] 37)).heap.size) hb1.size; replace hb1 := Lib.hid hb1)
                  refine ⟨⟨m + 1 + 1, op, by omega, by simp, hstep1, h8, hO2, hB1⟩, by simp [intOf]; omega⟩
      · obtain rfl : i = l.length := by omega
        have hE := hEnd.out op hop.out
        have hl0 : ((op.length : Int) == 0) = (op == []) := by cases op with | nil => rfl | cons a r => (rw [beq_eq_false_iff_ne.2 (by simp; omega)]; rfl)
        replace hE := Lib.hid hE
        go_wp2_with fail
        go_ret
        exact ⟨by rw [hE.out]; simp [hl0], hB.out⟩
  · have h64b : decide (64 < (l.length : Int)) = true := by simp; omega
    have hR : rightL l = false := by unfold rightL; simp [h64]
    rw [hR]
    go_enter Tryd.func28, Tryd.ntmps28
    go_wp2_with fail
    go_ret
    exact ⟨rfl, Below.refl _ _⟩
end Go.Proofs.YtcfkegfddiglcaaDoor
/-
  Whether tokens are one element, by the reference (heliographref04.Whole). Conditions: no text beyond the reach; the library's tables are as they were laid.
-/
namespace Go.Proofs.YtcfkegfddiglcaaDoor
set_option linter.unusedVariables false
set_option linter.unusedSimpArgs false
open Go.RowKit Go.MapKept
theorem step_len {p : Int} {op op' : List (List UInt8)} {tk : Tk} (h : stepT p op tk = some op') : (tk.k = 1 ∧ op'.length = op.length + 1) ∨ (tk.k = 2 ∧ op'.length + 1 = op.length) ∨ (tk.k = 3 ∧ op'.length = op.length ∧ tk.k ≠ 1 ∧ tk.k ≠ 2) := by
  unfold stepT at h
  split at h
  · cases h
  split at h
  · rename_i h1; injection h with h; subst h; left; exact ⟨h1.1, by simp⟩
  split at h
  · rename_i h1; injection h with h; subst h; right; left; exact ⟨h1.1, by simp; omega⟩
  split at h
  · rename_i h1; injection h with h; subst h; right; right; exact ⟨h1.1, rfl, by omega, by omega⟩
  · cases h
theorem whole_no {l : List Tk} {j : Nat} (hj : j < l.length - 1) (h : opsTo l (j + 1) = some []) : wholeL l = false := by
  unfold wholeL
  have : ¬ ∀ j, j < l.length - 1 → opsTo l (j + 1) ≠ some [] := fun hh => hh j hj h
  simp [this]
set_option maxRecDepth 100000 in
set_option maxHeartbeats 4000000 in
theorem refWhole_any (tv : Value) (l : List Tk) (w : World) (hT : TkS w tv l) (hsm : ∀ tk ∈ l, tk.small) (hU : U8T w) :
    Calls Tryd.prog 12 #[tv] w fun e w' => e = .returned (.bool (wholeL l)) ∧ Below w.heap.size w w' := by
  have hR := refRight_any tv l w hT hsm hU
  obtain ⟨vp, vc, rfl, hc1, hc2, hcell⟩ := hT
  replace hU := Lib.hid hU
  replace hsm := Lib.hid hsm
  cases hr : rightL l
  · rw [hr] at hR
    have hW : wholeL l = false := by unfold wholeL; rw [hr]; rfl
    rw [hW]
    replace hR := Lib.hid hR
    replace hr := Lib.hid hr
    replace hW := Lib.hid hW
    replace hcell := Lib.hid hcell
    go_enter Tryd.func12, Tryd.ntmps12
    go_wp2_with (go_at_call 28; refine hR.out.mono ?_; rintro e w1 ⟨rfl, hb⟩)
    go_ret
    exact ⟨rfl, hb⟩
  rw [hr] at hR
  have h64 : l.length ≤ 64 := by unfold rightL at hr; simp at hr; exact hr.1
  have hops := right_ops hr
  replace hR := Lib.hid hR
  rcases Nat.eq_zero_or_pos l.length with h0 | h0
  · have hn0 : l = [] := List.length_eq_zero_iff.1 h0
    subst hn0
    replace hcell := Lib.hid hcell
    have hW : wholeL [] = false := rfl
    rw [hW]
    go_enter Tryd.func12, Tryd.ntmps12
    go_wp2_with (go_at_call 28; refine hR.out.mono ?_; rintro e w1 ⟨rfl, hb⟩)
    go_ret
    exact ⟨rfl, hb⟩
  have hn0 : ((l.length : Int) == 0) = false := by rw [beq_eq_false_iff_ne]; omega
  have hn9 : (l.length : Int) ≤ 9223372036854775807 := by omega
  have hYes : (∀ j, j < l.length - 1 → opsTo l (j + 1) ≠ some []) → wholeL l = true := fun h => by
    unfold wholeL
    rw [hr, decide_eq_true_iff.2 h]
    cases l with
    | nil => simp at h0
    | cons a r => rfl
  have hNo := fun j (h1 : j < l.length - 1) (h2 : opsTo l (j + 1) = some []) => whole_no h1 h2
  have hSome : ∀ i, i ≤ l.length → (opsTo l i).isSome = true := fun i hi => opsTo_some hi (by rw [hops]; rfl)
  generalize wholeL l = WL at *
  replace hYes := Lib.hid hYes
  replace hNo := Lib.hid hNo
  replace hSome := Lib.hid hSome
  replace hops := Lib.hid hops
  replace hr := Lib.hid hr
  obtain ⟨b, o, rfl, hb, hcc⟩ := hcell h0
  clear hcell
  replace hcc := Lib.hid hcc
  go_enter Tryd.func12, Tryd.ntmps12
  go_wp2_with (go_at_call 28; refine hR.out.mono ?_; rintro e w1 ⟨rfl, hb1⟩; obtain ⟨kc, kf⟩ := bat hb1 b hb; have hbl := Nat.lt_of_lt_of_le hb hb1.size; replace hb1 := Lib.hid hb1)
  go_loopw [3, 4] (fun s3 s4 wr => ∃ (i : Nat) (op : List (List UInt8)), i ≤ l.length ∧ s3 = .int .i64 op.length ∧ s4 = .int .i64 i ∧ Hid (opsTo l i = some op) ∧ op.length ≤ 64 ∧ op.length ≤ i ∧ Hid (∀ j, j < i → j < l.length - 1 → opsTo l (j + 1) ≠ some []) ∧ wr = w1) (fun _ s4 _ => l.length - (intOf s4).toNat)
  case atStart =>
    exact ⟨0, [], by omega, rfl, rfl, Lib.hid rfl, by simp, by simp, Lib.hid (fun j h => absurd h (by omega)), rfl⟩
  case round =>
    obtain ⟨i, op, hil, rfl, rfl, hop, h6, h7, hD, rfl⟩ := hrel
    by_cases hlt : i < l.length
    · obtain ⟨sv, c0, -⟩ := hcc.out i hlt
      obtain ⟨op', hop'⟩ := Option.isSome_iff_exists.1 (hSome.out (i + 1) hlt)
      have hst := ops_step hlt hop.out
      rw [hop'] at hst
      have hsl := step_len hst.symm
      clear hst
      have hii : (i : Int) < l.length := by omega
      generalize (l[i]'hlt).k = kk at c0 hsl
      have hD' : op' ≠ [] → ∀ j, j < i + 1 → j < l.length - 1 → opsTo l (j + 1) ≠ some [] := fun h j h1 h2 => by
        by_cases e : j = i
        · subst e; rw [hop']; intro h9; injection h9 with h9; exact h h9
        · exact hD.out j (by omega) h2
      have hD'' : ¬ i < l.length - 1 → ∀ j, j < i + 1 → j < l.length - 1 → opsTo l (j + 1) ≠ some [] := fun h j h1 h2 => hD.out j (by omega) h2
      have hNN : i < l.length - 1 → op' = [] → WL = false := fun h1 h2 => hNo.out i h1 (by rw [hop', h2])
      have hl' : op'.length ≤ i + 1 := by omega
      have hln : (op' = []) ↔ op'.length = 0 := List.length_eq_zero_iff.symm
      replace hop' := Lib.hid hop'
      rw [ne_eq, hln] at hD'
      rw [hln] at hNN
      clear hln
      replace hD' := Lib.hid hD'
      replace hD'' := Lib.hid hD''
      replace hNN := Lib.hid hNN
      by_cases hz : op'.length = 0
      · by_cases hlast : i < l.length - 1
        · have hW := Lib.hid (hNN.out hlast hz)
          have hlb : decide ((i : Int) < (l.length : Int) - 1) = true := by simp; omega
          rcases hsl with ⟨rfl, e⟩ | ⟨rfl, e⟩ | ⟨rfl, e, -, -⟩
          · omega
          · have e1 : (op.length : Int) - 1 = 0 := by omega
            go_wp2_with fail
            go_ret
            exact ⟨by rw [hW.out]; rfl, hb1.out⟩
          · have e1 : (op.length : Int) = 0 := by omega
            go_wp2_with fail
            go_ret
            exact ⟨by rw [hW.out]; rfl, hb1.out⟩
        · have hlb : decide ((i : Int) < (l.length : Int) - 1) = false := by simp; omega
          have hD9 := Lib.hid (hD''.out hlast)
          rcases hsl with ⟨rfl, e⟩ | ⟨rfl, e⟩ | ⟨rfl, e, -, -⟩
          · omega
          · have e1 : (op.length : Int) - 1 = 0 := by omega
            go_wp2_with fail
            exact ⟨⟨i + 1, op', by omega, by first | (rw [hz]; rfl) | (rw [e]) | (simp; omega), by simp, hop', by omega, by omega, hD9, by first | rfl | trivial⟩, by simp [intOf]; omega⟩
          · have e1 : (op.length : Int) = 0 := by omega
            go_wp2_with fail
            exact ⟨⟨i + 1, op', by omega, by first | (rw [hz]; rfl) | (rw [e]) | (simp; omega), by simp, hop', by omega, by omega, hD9, by first | rfl | trivial⟩, by simp [intOf]; omega⟩
      · have hD9 := Lib.hid (hD'.out hz)
        rcases hsl with ⟨rfl, e⟩ | ⟨rfl, e⟩ | ⟨rfl, e, -, -⟩
        · have e1 : ((op.length : Int) + 1 == 0) = false := by rw [beq_eq_false_iff_ne]; omega
          go_wp2_with fail
          exact ⟨⟨i + 1, op', by omega, by rw [e]; simp, by simp, hop', by omega, by omega, hD9, by first | rfl | trivial⟩, by simp [intOf]; omega⟩
        · have e1 : ((op.length : Int) - 1 == 0) = false := by rw [beq_eq_false_iff_ne]; omega
          have e2 : (op.length : Int) - 1 = op'.length := by omega
          have e3 : ((op'.length : Int) == 0) = false := by rw [beq_eq_false_iff_ne]; omega
          go_wp2_with fail
          exact ⟨⟨i + 1, op', by omega, by first | rfl | (rw [← e2]), by simp, hop', by omega, by omega, hD9, by first | rfl | trivial⟩, by simp [intOf]; omega⟩
        · have e1 : ((op.length : Int) == 0) = false := by rw [beq_eq_false_iff_ne]; omega
          go_wp2_with fail
          exact ⟨⟨i + 1, op', by omega, by rw [e], by simp, hop', by omega, by omega, hD9, by first | rfl | trivial⟩, by simp [intOf]; omega⟩
    · obtain rfl : i = l.length := by omega
      have hW := Lib.hid (hYes.out (fun j h => hD.out j (by omega) h))
      go_wp2_with fail
      go_ret
      exact ⟨by rw [hW.out]; rfl, hb1.out⟩
end Go.Proofs.YtcfkegfddiglcaaDoor
