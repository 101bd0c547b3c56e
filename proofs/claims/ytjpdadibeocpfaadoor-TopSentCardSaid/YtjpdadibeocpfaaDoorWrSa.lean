/-
  Whether tokens are the same: write.Same (slices.EqualFunc, slices.Equal), and the reference's.
-/
import Derived.Test.YtjpdadibeocpfaaDoorWrEl
import Derived.Deep.LoopGhost
import Derived.Deep.RegionHeld3
import Derived.Shelf.Abstract
namespace Go.Proofs.YtjpdadibeocpfaaDoor
set_option linter.unusedVariables false
set_option linter.unusedSimpArgs false
open Go.RowKit Go.MapKept Go.Shelf
def Tk.same (x y : Tk) : Bool := decide (x.k = y.k) && decide (x.n = y.n) && decide (x.t = y.t) && decide (x.as = y.as)
/-- slices.Equal at attributes -/
theorem equal_any (v1 v2 : Value) (a1 a2 : Ats) (w : World) (h1 : AtS w v1 a1) (h2 : AtS w v2 a2) :
    Calls Tryd.prog 27 #[v1, v2] w fun e w' => e = .returned (.bool (decide (a1 = a2))) ∧ Below w.heap.size w w' := by
  obtain ⟨p1, c1, rfl, hc1, hm1, hcell1⟩ := h1
  obtain ⟨p2, c2, rfl, hc2, hm2, hcell2⟩ := h2
  have hmx1 : (a1.length : Int) ≤ 9223372036854775807 := by unfold maxLen at hm1; omega
  have hmx2 : (a2.length : Int) ≤ 9223372036854775807 := by unfold maxLen at hm2; omega
  by_cases hl0 : a1.length = a2.length
  · have hl := Lib.hid hl0
    have hlI : (a1.length : Int) = (a2.length : Int) := by omega
    clear hl0
    go_enter Tryd.func27, Tryd.ntmps27
    go_wp2
    go_loopg [5, 13] a1.length (fun gg _ s8 wr => ∃ kk : Nat, kk ≤ a1.length ∧ a1.length - kk ≤ gg ∧ s8 = .int .i64 kk ∧ Hid (Below w.heap.size w wr) ∧ Hid (∀ j (h1 : j < a1.length) (h2 : j < a2.length), j < kk → a1[j]'h1 = a2[j]'h2))
    case atStart => exact ⟨0, Nat.zero_le _, by omega, rfl, Below.refl _ w, fun j _ _ hj => absurd hj (Nat.not_lt_zero _)⟩
    case round =>
      obtain ⟨kk, hkk, hg, rfl, BW, A⟩ := hrel
      by_cases hlt : kk < a1.length
      · obtain ⟨b1, o1, rfl, hb1, hcc1⟩ := hcell1 (by omega)
        obtain ⟨b2, o2, rfl, hb2, hcc2⟩ := hcell2 (by omega)
        have hlt2 : kk < a2.length := by have := hl.out; omega
        have e0 := (BW.out.cell (p := ⟨b1, o1 + kk * 2, none⟩) hb1).trans (hcc1 kk hlt).1
        have e1 := (BW.out.cell (p := ⟨b1, o1 + kk * 2 + 1, none⟩) hb1).trans (hcc1 kk hlt).2
        have f0 := (BW.out.cell (p := ⟨b2, o2 + kk * 2, none⟩) hb2).trans (hcc2 kk hlt2).1
        have f1 := (BW.out.cell (p := ⟨b2, o2 + kk * 2 + 1, none⟩) hb2).trans (hcc2 kk hlt2).2
        clear hcc1 hcc2 hcell1 hcell2
        have hp : Hid (decide (a1 = a2) = false ∨ a1[kk] = a2[kk]) := Lib.hid (by by_cases h : a1[kk] = a2[kk]; exact .inr h; exact .inl (decide_eq_false fun e => h (by subst e; rfl)))
        generalize hA1 : a1[kk] = x1 at e0 e1 hp
        generalize hA2 : a2[kk] = x2 at f0 f1 hp
        replace hA1 := Lib.hid hA1
        replace hA2 := Lib.hid hA2
        obtain ⟨n1, m1⟩ := x1
        obtain ⟨n2, m2⟩ := x2
        have hi0 : (0 : Int) ≤ (kk : Int) := by omega
        have hi1 : (kk : Int) < (a1.length : Int) := by omega
        have hi2 : (kk : Int) < (a2.length : Int) := by omega
        go_wp2_with fail
        by_cases hn : n1 = n2
        · subst hn
          by_cases hmm : m1 = m2
          · subst hmm
            go_region_held3 (fun W => W.cell? ⟨b1, o1 + kk * 2, none⟩ = some (.string ⟨n1.toArray⟩) ∧ W.cell? ⟨b1, o1 + kk * 2 + 1, none⟩ = some (.string ⟨m1.toArray⟩) ∧ W.cell? ⟨b2, o2 + kk * 2, none⟩ = some (.string ⟨n1.toArray⟩) ∧ W.cell? ⟨b2, o2 + kk * 2 + 1, none⟩ = some (.string ⟨m1.toArray⟩) ∧ Below w.heap.size w W) (first | assumption | exact ⟨e0, e1, f0, f1, BW.out.drew⟩) (fail)
            go_wp2
            go_roundg (a1.length - (kk + 1))
            case measure => omega
            case rel =>
              refine ⟨kk + 1, by omega, by omega, by go_num, Lib.hid BW.out.drew, Lib.hid (fun j h1 h2 h => ?_)⟩
              by_cases e : j = kk
              · subst e
                rw [hA1.out, hA2.out]
              · exact A.out j h1 h2 (by omega)
          · go_region_held3 (fun W => W.cell? ⟨b1, o1 + kk * 2, none⟩ = some (.string ⟨n1.toArray⟩) ∧ W.cell? ⟨b1, o1 + kk * 2 + 1, none⟩ = some (.string ⟨m1.toArray⟩) ∧ W.cell? ⟨b2, o2 + kk * 2, none⟩ = some (.string ⟨n1.toArray⟩) ∧ W.cell? ⟨b2, o2 + kk * 2 + 1, none⟩ = some (.string ⟨m2.toArray⟩) ∧ Below w.heap.size w W) (first | assumption | exact ⟨e0, e1, f0, f1, BW.out.drew⟩) (fail)
            go_wp2
            go_ret
            exact ⟨by rw [hp.out.resolve_right (by simp [*])]; rfl, BW.out.drew⟩
        · go_region_held3 (fun W => W.cell? ⟨b1, o1 + kk * 2, none⟩ = some (.string ⟨n1.toArray⟩) ∧ W.cell? ⟨b1, o1 + kk * 2 + 1, none⟩ = some (.string ⟨m1.toArray⟩) ∧ W.cell? ⟨b2, o2 + kk * 2, none⟩ = some (.string ⟨n2.toArray⟩) ∧ W.cell? ⟨b2, o2 + kk * 2 + 1, none⟩ = some (.string ⟨m2.toArray⟩) ∧ Below w.heap.size w W) (first | assumption | exact ⟨e0, e1, f0, f1, BW.out.drew⟩) (fail)
          go_wp2
          go_ret
          exact ⟨by rw [hp.out.resolve_right (by simp [*])]; rfl, BW.out.drew⟩
      · have : kk = a1.length := by omega
        subst this
        go_wp2
        go_ret
        exact ⟨by rw [decide_eq_true (List.ext_getElem hl.out fun i h1 h2 => A.out i h1 h2 h1)]; rfl, BW.out⟩
  · have : a1 ≠ a2 := fun h => hl0 (by rw [h])
    rw [decide_eq_false this]
    go_enter Tryd.func27, Tryd.ntmps27
    go_wp2
    go_ret
    exact ⟨rfl, Below.refl _ _⟩
/-- write.Same's literal -/
theorem same1_any (k1 k2 : Int) (n1 n2 t1 t2 : List UInt8) (v1 v2 : Value) (a1 a2 : Ats) (w : World) (h1 : AtS w v1 a1) (h2 : AtS w v2 a2) :
    Calls Tryd.prog 26 #[.agg #[.int .u8 k1, .string ⟨n1.toArray⟩, v1, .string ⟨t1.toArray⟩], .agg #[.int .u8 k2, .string ⟨n2.toArray⟩, v2, .string ⟨t2.toArray⟩]] w fun e w' => e = .returned (.bool (Tk.same ⟨k1, n1, a1, t1⟩ ⟨k2, n2, a2, t2⟩)) ∧ Below w.heap.size w w' := by
  have hE : ∀ W, Below w.heap.size w W → Calls Tryd.prog 27 #[v1, v2] W fun e w' => e = .returned (.bool (decide (a1 = a2))) ∧ Below W.heap.size W w' := fun W hb => equal_any v1 v2 a1 a2 W (h1.below hb) (h2.below hb)
  replace hE := Lib.hid hE
  clear h1 h2
  unfold Tk.same
  by_cases hk : k1 = k2
  · subst hk
    by_cases hn : n1 = n2
    · subst hn
      by_cases ht : t1 = t2
      · subst ht
        go_enter Tryd.func26, Tryd.ntmps26
        go_wp2_with (go_at_call 27; refine (hE.out _ (belowA (below1 w _) _)).mono ?_; rintro e w1 ⟨rfl, hb1⟩)
        go_ret
        exact ⟨by simp, belowT (belowA (below1 w _) _) hb1⟩
      · go_enter Tryd.func26, Tryd.ntmps26
        go_wp2_with fail
        go_ret
        exact ⟨by simp [ht], belowA (below1 w _) _⟩
    · go_enter Tryd.func26, Tryd.ntmps26
      go_wp2_with fail
      go_ret
      exact ⟨by simp [hn], belowA (below1 w _) _⟩
  · go_enter Tryd.func26, Tryd.ntmps26
    go_wp2_with fail
    go_ret
    exact ⟨by simp [hk], belowA (below1 w _) _⟩
end Go.Proofs.YtjpdadibeocpfaaDoor
/-
  write.Same: slices.EqualFunc with its literal.
-/
namespace Go.Proofs.YtjpdadibeocpfaaDoor
set_option linter.unusedVariables false
set_option linter.unusedSimpArgs false
open Go.RowKit Go.MapKept Go.Shelf
def sameL : List Tk → List Tk → Bool
  | [], [] => true
  | x :: xs, y :: ys => x.same y && sameL xs ys
  | _, _ => false
theorem same_len : ∀ {a b : List Tk}, sameL a b = true → a.length = b.length
  | [], [], _ => rfl
  | x :: xs, y :: ys, h => by
    simp only [sameL, Bool.and_eq_true] at h
    simpa using same_len h.2
  | [], y :: ys, h => by simp [sameL] at h
  | x :: xs, [], h => by simp [sameL] at h
theorem same_each : ∀ {a b : List Tk}, sameL a b = true → ∀ i (h1 : i < a.length) (h2 : i < b.length), (a[i]'h1).same (b[i]'h2) = true
  | x :: xs, y :: ys, h, i, h1, h2 => by
    simp only [sameL, Bool.and_eq_true] at h
    cases i with
    | zero => exact h.1
    | succ i => exact same_each h.2 i (by simpa using h1) (by simpa using h2)
  | [], _, _, _, h1, _ => absurd h1 (by simp)
  | _ :: _, [], _, _, _, h2 => absurd h2 (by simp)
theorem same_of : ∀ {a b : List Tk}, a.length = b.length → (∀ i (h1 : i < a.length) (h2 : i < b.length), (a[i]'h1).same (b[i]'h2) = true) → sameL a b = true
  | [], [], _, _ => rfl
  | x :: xs, y :: ys, hl, h => by
    simp only [sameL, Bool.and_eq_true]
    exact ⟨h 0 (by simp) (by simp), same_of (by simpa using hl) fun i h1 h2 => h (i + 1) (by simpa using h1) (by simpa using h2)⟩
  | [], y :: ys, hl, _ => by simp at hl
  | x :: xs, [], hl, _ => by simp at hl
theorem same_not {a b : List Tk} {i : Nat} {h1 : i < a.length} {h2 : i < b.length} (h : (a[i]'h1).same (b[i]'h2) = false) : sameL a b = false := by
  cases e : sameL a b with
  | false => rfl
  | true => rw [same_each e i h1 h2] at h; cases h
theorem same_nlen {a b : List Tk} (h : a.length ≠ b.length) : sameL a b = false := by
  cases e : sameL a b with
  | false => rfl
  | true => exact absurd (same_len e) h
set_option maxHeartbeats 2000000 in
theorem equalFunc_any (v1 v2 : Value) (a1 a2 : List Tk) (w : World) (h1 : TkS w v1 a1) (h2 : TkS w v2 a2) :
    Calls Tryd.prog 25 #[v1, v2, .func (.func 26) #[] #[]] w fun e w' => e = .returned (.bool (sameL a1 a2)) ∧ Below w.heap.size w w' := by
  obtain ⟨p1, c1, rfl, hc1, hm1, hcell1⟩ := h1
  obtain ⟨p2, c2, rfl, hc2, hm2, hcell2⟩ := h2
  have hmx1 : (a1.length : Int) ≤ 9223372036854775807 := by unfold maxLen at hm1; omega
  have hmx2 : (a2.length : Int) ≤ 9223372036854775807 := by unfold maxLen at hm2; omega
  have eg := enters_of (P := Tryd.prog) Tryd.func26 (by kernel_rfl) rfl
  by_cases hl0 : a1.length = a2.length
  · have hl := Lib.hid hl0
    have hlI : (a1.length : Int) = (a2.length : Int) := by omega
    clear hl0
    go_enter Tryd.func25, Tryd.ntmps25
    go_wp2
    go_loopg [7, 17] a1.length (fun gg _ s17 wr => ∃ kk : Nat, kk ≤ a1.length ∧ a1.length - kk ≤ gg ∧ s17 = .int .i64 kk ∧ Hid (Below w.heap.size w wr) ∧ Hid (∀ j (h1 : j < a1.length) (h2 : j < a2.length), j < kk → (a1[j]'h1).same (a2[j]'h2) = true))
    case atStart => exact ⟨0, Nat.zero_le _, by omega, rfl, Below.refl _ w, fun j _ _ hj => absurd hj (Nat.not_lt_zero _)⟩
    case round =>
      obtain ⟨kk, hkk, hg, rfl, BW, A⟩ := hrel
      by_cases hlt : kk < a1.length
      · obtain ⟨b1, o1, rfl, hb1, hcc1⟩ := hcell1 (by omega)
        obtain ⟨b2, o2, rfl, hb2, hcc2⟩ := hcell2 (by omega)
        have hlt2 : kk < a2.length := by have := hl.out; omega
        obtain ⟨u1, d0, d1, d2, d3, hat1⟩ := hcc1 kk hlt
        obtain ⟨u2, e0, e1, e2, e3, hat2⟩ := hcc2 kk hlt2
        have k1 := fun (j : Nat) => BW.out.cell (p := ⟨b1, j, none⟩) hb1
        have k2 := fun (j : Nat) => BW.out.cell (p := ⟨b2, j, none⟩) hb2
        replace d0 := (k1 _).trans d0
        replace d1 := (k1 _).trans d1
        replace d2 := (k1 _).trans d2
        replace d3 := (k1 _).trans d3
        replace e0 := (k2 _).trans e0
        replace e1 := (k2 _).trans e1
        replace e2 := (k2 _).trans e2
        replace e3 := (k2 _).trans e3
        clear k1 k2 hcc1 hcc2 hcell1 hcell2
        generalize hA1 : a1[kk] = x1 at d0 d1 d2 d3 hat1
        generalize hA2 : a2[kk] = x2 at e0 e1 e2 e3 hat2
        replace hA1 := Lib.hid hA1
        replace hA2 := Lib.hid hA2
        obtain ⟨k1, n1, as1, t1⟩ := x1
        obtain ⟨k2, n2, as2, t2⟩ := x2
        simp only at d0 d1 d2 d3 e0 e1 e2 e3 hat1 hat2
        obtain ⟨ap1, ac1, rfl⟩ : ∃ a c, u1 = .slice a as1.length c := by obtain ⟨a, c, h, -⟩ := hat1; exact ⟨a, c, h⟩
        obtain ⟨ap2, ac2, rfl⟩ : ∃ a c, u2 = .slice a as2.length c := by obtain ⟨a, c, h, -⟩ := hat2; exact ⟨a, c, h⟩
        have hS : ∀ W, Below w.heap.size w W → Calls Tryd.prog 26 #[.agg #[.int .u8 k1, .string ⟨n1.toArray⟩, .slice ap1 as1.length ac1, .string ⟨t1.toArray⟩], .agg #[.int .u8 k2, .string ⟨n2.toArray⟩, .slice ap2 as2.length ac2, .string ⟨t2.toArray⟩]] W fun e w' => e = .returned (.bool (Tk.same ⟨k1, n1, as1, t1⟩ ⟨k2, n2, as2, t2⟩)) ∧ Below W.heap.size W w' :=
          fun W hb => same1_any k1 k2 n1 n2 t1 t2 _ _ as1 as2 W (hat1.below hb) (hat2.below hb)
        replace hS := Lib.hid hS
        clear hat1 hat2
        have hb1w : b1 < wr.heap.size := Nat.lt_of_lt_of_le hb1 BW.out.size
        have hb2w : b2 < wr.heap.size := Nat.lt_of_lt_of_le hb2 BW.out.size
        have B2 := fun o1 o2 => belowA (belowA BW.out o1) o2
        replace B2 := Lib.hid B2
        cases hq : Tk.same ⟨k1, n1, as1, t1⟩ ⟨k2, n2, as2, t2⟩ with
        | false =>
          rw [hq] at hS
          replace hq := Lib.hid hq
          go_wp2_with (go_at_call 26; refine (hS.out _ (B2.out _ _)).mono ?_; rintro e w' ⟨rfl, hb'⟩)
          go_ret
          exact ⟨by rw [same_not (i := kk) (h1 := hlt) (h2 := hlt2) (by rw [hA1.out, hA2.out]; exact hq.out)]; rfl, belowT (B2.out _ _) hb'⟩
        | true =>
          rw [hq] at hS
          replace hq := Lib.hid hq
          go_wp2_with (go_at_call 26; refine (hS.out _ (B2.out _ _)).mono ?_; rintro e w' ⟨rfl, hb'⟩)
          go_roundg (a1.length - (kk + 1))
          case measure => omega
          case rel =>
            refine ⟨kk + 1, by omega, by omega, by go_num, Lib.hid (belowT (B2.out _ _) hb'), Lib.hid (fun j h1 h2 h => ?_)⟩
            by_cases e : j = kk
            · subst e
              rw [hA1.out, hA2.out]; exact hq.out
            · exact A.out j h1 h2 (by omega)
      · have : kk = a1.length := by omega
        subst this
        go_wp2
        go_ret
        exact ⟨by rw [same_of hl.out fun i h1 h2 => A.out i h1 h2 h1]; rfl, BW.out⟩
  · rw [same_nlen hl0]
    go_enter Tryd.func25, Tryd.ntmps25
    go_wp2
    go_ret
    exact ⟨rfl, Below.refl _ _⟩
theorem same_any (v1 v2 : Value) (a1 a2 : List Tk) (w : World) (h1 : TkS w v1 a1) (h2 : TkS w v2 a2) :
    Calls Tryd.prog 12 #[v1, v2] w fun e w' => e = .returned (.bool (sameL a1 a2)) ∧ Below w.heap.size w w' := by
  have hE := equalFunc_any v1 v2 a1 a2 w h1 h2
  go_enter Tryd.func12, Tryd.ntmps12
  go_wp2_with (go_at_call 25; refine hE.mono ?_; rintro e w' ⟨rfl, hb'⟩)
  go_ret
  exact ⟨rfl, hb'⟩
end Go.Proofs.YtjpdadibeocpfaaDoor
