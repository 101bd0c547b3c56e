/-
  The walk of JidParts: parts of letters make an address, as far as there is room.
-/
import Derived.Test.YtpfipkdnjoihdaaJidLive
import Derived.Deep.RegionLaw
namespace Go.Proofs.Ytpfipkdnjoihdaa
set_option linter.unusedVariables false
set_option linter.unusedSimpArgs false
open Go.RowKit
attribute [local go_sem] setCell_drewN alloc_drewN drewN_drewN drew_drewN drewN_drew mk_get lt2 lt3 lt4 lt5 lt6 lt7 lt8
def partC (c : UInt8) (k : Nat) : UInt8 := UInt8.ofNat (65 + (c.toNat + k) % 256 % 26)
def partB (c : UInt8) (n : Nat) : List UInt8 := (List.range n).map (partC c)
theorem partC_nat (c : UInt8) (k : Nat) : (partC c k).toNat = 65 + (c.toNat + k) % 256 % 26 := by
  unfold partC
  simp
  omega
theorem partB_len (c : UInt8) (n : Nat) : (partB c n).length = n := by simp [partB]
theorem partB_snoc (c : UInt8) (n : Nat) : partB c (n + 1) = partB c n ++ [partC c n] := by simp [partB, List.range_succ]
theorem partB_letters (c : UInt8) (n : Nat) : lettersL (partB c n) = true := by
  unfold lettersL partB
  rw [List.all_eq_true]
  intro x hx
  obtain ⟨k, -, rfl⟩ := List.mem_map.1 hx
  rw [partC_nat]
  unfold letterN
  have := Nat.mod_lt ((c.toNat + k) % 256) (show 0 < 26 by omega)
  simp
  omega
theorem rem30 (n : UInt8) : (wrap64 (n.toNat : Int)).tmod 30 = ((n.toNat % 30 : Nat) : Int) := by
  have h := n.toNat_lt
  have e : wrap64 (n.toNat : Int) = n.toNat := by unfold wrap64; omega
  rw [e, Int.tmod_eq_emod_of_nonneg (by omega)]
  omega
theorem al_cell (w : World) (o : Obj) {b k : Nat} (h : b < w.heap.size) : (w.alloc o).drew.cell? ⟨b, k, none⟩ = w.cell? ⟨b, k, none⟩ := (bat (below1 w o).drew b h).1 k
theorem al_frozen (w : World) (o : Obj) {b k : Nat} (h : b < w.heap.size) : (w.alloc o).drew.frozen? ⟨b, k, none⟩ = w.frozen? ⟨b, k, none⟩ := (bat (below1 w o).drew b h).2 k
theorem partC_int (c : UInt8) (j : Nat) (h : j < 30) : IntKind.u8.wrap (65 + (IntKind.u8.wrap ((c.toNat : Int) + IntKind.u8.wrap (j : Int))).tmod 26) = ((partC c j).toNat : Int) := by
  have hc := c.toNat_lt
  rw [partC_nat]
  have w8 : ∀ x : Int, 0 ≤ x → IntKind.u8.wrap x = x % 256 := fun x hx => by simp [IntKind.wrap, IntKind.bits, IntKind.signed] <;> omega
  rw [w8 (j : Int) (by omega), w8 ((c.toNat : Int) + (j : Int) % 256) (by omega), Int.tmod_eq_emod_of_nonneg (by omega), w8 _ (by omega)]
  omega
theorem one_conv (wr : World) (c : UInt8) : (convert 35 9 (.slice (some ⟨wr.heap.size, 0, none⟩) 1 1)).run Try.prog (wr.alloc (.cells #[.int .u8 (c.toNat : Int)] 5)).drew = .ok (.string ⟨#[c]⟩) (wr.alloc (.cells #[.int .u8 (c.toNat : Int)] 5)).drew :=
  U8Row.back (xs := [c]) ⟨fun j h => by obtain rfl : j = 0 := by simpa using h
                                        simp, fun j h => by obtain rfl : j = 0 := by simpa using h
                                                            simp⟩ 35 9 5 Try.underlying35 Try.underlying5 Try.underlying9 1
/-- how far the parts are: the three cells of n, of c, and of the parts -/
def St (w wr : World) (n c : UInt8 × UInt8 × UInt8) (a b d : List UInt8) : Prop :=
  (wr.cell? ⟨w.heap.size, 0, none⟩ = some (.int .u8 n.1.toNat) ∧ wr.cell? ⟨w.heap.size, 1, none⟩ = some (.int .u8 n.2.1.toNat) ∧ wr.cell? ⟨w.heap.size, 2, none⟩ = some (.int .u8 n.2.2.toNat)) ∧
  (wr.cell? ⟨w.heap.size + 1, 0, none⟩ = some (.int .u8 c.1.toNat) ∧ wr.cell? ⟨w.heap.size + 1, 1, none⟩ = some (.int .u8 c.2.1.toNat) ∧ wr.cell? ⟨w.heap.size + 1, 2, none⟩ = some (.int .u8 c.2.2.toNat)) ∧
  (wr.cell? ⟨w.heap.size + 1 + 1, 0, none⟩ = some (.string ⟨a.toArray⟩) ∧ wr.cell? ⟨w.heap.size + 1 + 1, 1, none⟩ = some (.string ⟨b.toArray⟩) ∧ wr.cell? ⟨w.heap.size + 1 + 1, 2, none⟩ = some (.string ⟨d.toArray⟩)) ∧
  (wr.frozen? ⟨w.heap.size + 1 + 1, 0, none⟩ = false ∧ wr.frozen? ⟨w.heap.size + 1 + 1, 1, none⟩ = false ∧ wr.frozen? ⟨w.heap.size + 1 + 1, 2, none⟩ = false) ∧
  Below w.heap.size w wr ∧ w.heap.size + 1 + 1 < wr.heap.size
theorem st_cell {w wr : World} (hz : w.heap.size + 1 + 1 < wr.heap.size) (m : Nat) (v : Value) (o : Obj) (b k : Nat) (hb : b ≤ w.heap.size + 1 + 1) (hne : b ≠ w.heap.size + 1 + 1 ∨ k ≠ m) :
    (((wr.setCell ⟨w.heap.size + 1 + 1, m, none⟩ v).alloc o).drew).cell? ⟨b, k, none⟩ = wr.cell? ⟨b, k, none⟩ := by
  rw [al_cell _ _ (by rw [World.size_setCell]; omega), World.cell?_setCell_other (a := ⟨w.heap.size + 1 + 1, m, none⟩) (b := ⟨b, k, none⟩) (h := by simp; omega)]
theorem st_same {w wr : World} (hz : w.heap.size + 1 + 1 < wr.heap.size) (m : Nat) (v u : Value) (o : Obj) (h : wr.cell? ⟨w.heap.size + 1 + 1, m, none⟩ = some u) :
    (((wr.setCell ⟨w.heap.size + 1 + 1, m, none⟩ v).alloc o).drew).cell? ⟨w.heap.size + 1 + 1, m, none⟩ = some v := by
  rw [al_cell _ _ (by rw [World.size_setCell]; omega), World.cell?_setCell_same' _ _ _ (by rw [h]; rfl)]
theorem st_frozen {w wr : World} (hz : w.heap.size + 1 + 1 < wr.heap.size) (m : Nat) (v : Value) (o : Obj) (k : Nat) :
    (((wr.setCell ⟨w.heap.size + 1 + 1, m, none⟩ v).alloc o).drew).frozen? ⟨w.heap.size + 1 + 1, k, none⟩ = wr.frozen? ⟨w.heap.size + 1 + 1, k, none⟩ := by
  rw [al_frozen _ _ (by rw [World.size_setCell]; omega), World.frozen?_setCell]
theorem St.next0 {w wr : World} {n c : UInt8 × UInt8 × UInt8} {a b d : List UInt8} (h : St w wr n c a b d) (x : List UInt8) (o : Obj) : St w (((wr.setCell ⟨w.heap.size + 1 + 1, 0, none⟩ (.string ⟨x.toArray⟩)).alloc o).drew) n c x b d := by
  obtain ⟨⟨p0, p1, p2⟩, ⟨q0, q1, q2⟩, ⟨s0, s1, s2⟩, ⟨f0, f1, f2⟩, hb, hz⟩ := h
  exact ⟨⟨(st_cell hz _ _ _ _ _ (by omega) (by omega)).trans p0, (st_cell hz _ _ _ _ _ (by omega) (by omega)).trans p1, (st_cell hz _ _ _ _ _ (by omega) (by omega)).trans p2⟩, ⟨(st_cell hz _ _ _ _ _ (by omega) (by omega)).trans q0, (st_cell hz _ _ _ _ _ (by omega) (by omega)).trans q1, (st_cell hz _ _ _ _ _ (by omega) (by omega)).trans q2⟩, ⟨(st_same hz _ _ _ _ s0), (st_cell hz _ _ _ _ _ (by omega) (by simp)).trans s1, (st_cell hz _ _ _ _ _ (by omega) (by simp)).trans s2⟩, ⟨(st_frozen hz _ _ _ _).trans f0, (st_frozen hz _ _ _ _).trans f1, (st_frozen hz _ _ _ _).trans f2⟩, ((hb.setCell (by simp; omega) _).alloc (by rw [World.size_setCell]; omega) _).drew, by simp [World.size_setCell]; omega⟩
theorem St.next1 {w wr : World} {n c : UInt8 × UInt8 × UInt8} {a b d : List UInt8} (h : St w wr n c a b d) (x : List UInt8) (o : Obj) : St w (((wr.setCell ⟨w.heap.size + 1 + 1, 1, none⟩ (.string ⟨x.toArray⟩)).alloc o).drew) n c a x d := by
  obtain ⟨⟨p0, p1, p2⟩, ⟨q0, q1, q2⟩, ⟨s0, s1, s2⟩, ⟨f0, f1, f2⟩, hb, hz⟩ := h
  exact ⟨⟨(st_cell hz _ _ _ _ _ (by omega) (by omega)).trans p0, (st_cell hz _ _ _ _ _ (by omega) (by omega)).trans p1, (st_cell hz _ _ _ _ _ (by omega) (by omega)).trans p2⟩, ⟨(st_cell hz _ _ _ _ _ (by omega) (by omega)).trans q0, (st_cell hz _ _ _ _ _ (by omega) (by omega)).trans q1, (st_cell hz _ _ _ _ _ (by omega) (by omega)).trans q2⟩, ⟨(st_cell hz _ _ _ _ _ (by omega) (by simp)).trans s0, (st_same hz _ _ _ _ s1), (st_cell hz _ _ _ _ _ (by omega) (by simp)).trans s2⟩, ⟨(st_frozen hz _ _ _ _).trans f0, (st_frozen hz _ _ _ _).trans f1, (st_frozen hz _ _ _ _).trans f2⟩, ((hb.setCell (by simp; omega) _).alloc (by rw [World.size_setCell]; omega) _).drew, by simp [World.size_setCell]; omega⟩
theorem St.next2 {w wr : World} {n c : UInt8 × UInt8 × UInt8} {a b d : List UInt8} (h : St w wr n c a b d) (x : List UInt8) (o : Obj) : St w (((wr.setCell ⟨w.heap.size + 1 + 1, 2, none⟩ (.string ⟨x.toArray⟩)).alloc o).drew) n c a b x := by
  obtain ⟨⟨p0, p1, p2⟩, ⟨q0, q1, q2⟩, ⟨s0, s1, s2⟩, ⟨f0, f1, f2⟩, hb, hz⟩ := h
  exact ⟨⟨(st_cell hz _ _ _ _ _ (by omega) (by omega)).trans p0, (st_cell hz _ _ _ _ _ (by omega) (by omega)).trans p1, (st_cell hz _ _ _ _ _ (by omega) (by omega)).trans p2⟩, ⟨(st_cell hz _ _ _ _ _ (by omega) (by omega)).trans q0, (st_cell hz _ _ _ _ _ (by omega) (by omega)).trans q1, (st_cell hz _ _ _ _ _ (by omega) (by omega)).trans q2⟩, ⟨(st_cell hz _ _ _ _ _ (by omega) (by simp)).trans s0, (st_cell hz _ _ _ _ _ (by omega) (by simp)).trans s1, (st_same hz _ _ _ _ s2)⟩, ⟨(st_frozen hz _ _ _ _).trans f0, (st_frozen hz _ _ _ _).trans f1, (st_frozen hz _ _ _ _).trans f2⟩, ((hb.setCell (by simp; omega) _).alloc (by rw [World.size_setCell]; omega) _).drew, by simp [World.size_setCell]; omega⟩
theorem app_one (l : List UInt8) (c : UInt8) : (ByteArray.mk l.toArray ++ ByteArray.mk #[c]) = ⟨(l ++ [c]).toArray⟩ := by
  apply ByteArray.ext
  simp
theorem joinL_len (a b d : List UInt8) : (joinL a b d).length = a.length + b.length + d.length + (if a.isEmpty then 0 else 1) + (if d.isEmpty then 0 else 1) := by
  unfold joinL
  cases ha : a.isEmpty <;> cases hd : d.isEmpty <;> simp_all <;> omega
theorem rightJ_sum {a b d : List UInt8} (k0 : lettersL a = true) (k1 : lettersL b = true) (k2 : lettersL d = true) (m0 : a.length ≤ 30) (m1 : b.length ≤ 30) (m2 : d.length ≤ 30) :
    rightJ a b d = (!b.isEmpty && decide (a.length + b.length + d.length + (if a.isEmpty then 0 else 1) + (if d.isEmpty then 0 else 1) ≤ 64)) := by
  unfold rightJ
  rw [joinL_len, ← partP_yes k0, ← partP_yes k1, ← partP_yes k2]
  have e0 : decide (a.length ≤ 64) = true := by simp; omega
  have e1 : decide (b.length ≤ 64) = true := by simp; omega
  have e2 : decide (d.length ≤ 64) = true := by simp; omega
  rw [e0, e1, e2]
  cases a.isEmpty <;> cases b.isEmpty <;> cases d.isEmpty <;> simp
def upTo (k i : Nat) (p : List UInt8) : List UInt8 := if i < k then p else []
set_option maxHeartbeats 40000000 in
theorem jidParts_walk (n0 n1 n2 c0 c1 c2 : UInt8) (w : World) :
    Calls Try.prog 6 #[.agg #[.int .u8 n0.toNat, .int .u8 n1.toNat, .int .u8 n2.toNat], .agg #[.int .u8 c0.toNat, .int .u8 c1.toNat, .int .u8 c2.toNat]] w fun e w' => e = .returned (.bool true) ∧ Below w.heap.size w w' := by
  have hL := Lib.hid live_any
  go_enter Try.func6, Try.ntmps6
  go_wp2
  go_loopw [6] (fun i wr => ∃ k : Nat, k ≤ 3 ∧ i = .int .i64 k ∧ Hid (St w wr (n0, n1, n2) (c0, c1, c2) (upTo k 0 (partB c0 (n0.toNat % 30))) (upTo k 1 (partB c1 (n1.toNat % 30))) (upTo k 2 (partB c2 (n2.toNat % 30))))) (fun i _ => 3 - (intOf i).toNat)
  case atStart =>
    refine ⟨0, Nat.zero_le _, rfl, ?_⟩
    unfold Hid St
    refine ⟨⟨by simp [go_sem], by simp [go_sem], by simp [go_sem]⟩, ⟨by simp [go_sem], by simp [go_sem], by simp [go_sem]⟩, ⟨by simp [go_sem, upTo], by simp [go_sem, upTo], by simp [go_sem, upTo]⟩, ⟨by simp [go_sem], by simp [go_sem], by simp [go_sem]⟩, belowA (belowA (below1 w _) _) _, by simp⟩
  case round =>
    obtain ⟨k, hk, rfl, HS⟩ := hrel
    by_cases hlt : k < 3
    · obtain rfl | rfl | rfl : k = 0 ∨ k = 1 ∨ k = 2 := by omega
      · simp only [show ((0 : Nat) : Int) = 0 from rfl]
        have hs := HS.out
        simp only [St] at hs
        obtain ⟨⟨p0, p1, p2⟩, ⟨q0, q1, q2⟩, ⟨s0, s1, s2⟩, ⟨f0, f1, f2⟩, hb, hz⟩ := hs
        have hm : (wrap64 (n0.toNat : Int)).tmod 30 = ((n0.toNat % 30 : Nat) : Int) := rem30 n0
        go_wp2
        go_loopw [7] (fun i wr => ∃ j : Nat, j ≤ n0.toNat % 30 ∧ i = .int .i64 j ∧ Hid (St w wr (n0, n1, n2) (c0, c1, c2) (partB c0 j) [] [])) (fun i _ => n0.toNat % 30 - (intOf i).toNat)
        case atStart => exact ⟨0, Nat.zero_le _, rfl, by simpa [upTo, partB] using HS⟩
        case round =>
          clear p0 p1 p2 q0 q1 q2 s0 s1 s2 f0 f1 f2 hb hz HS
          obtain ⟨j, hj, rfl, HS⟩ := hrel
          have hs := HS.out
          simp only [St] at hs
          obtain ⟨⟨p0, p1, p2⟩, ⟨q0, q1, q2⟩, ⟨s0, s1, s2⟩, ⟨f0, f1, f2⟩, hb, hz⟩ := hs
          by_cases hlt : j < n0.toNat % 30
          · have hd : decide ((j : Int) < (n0.toNat : Int) % 30) = true := by simp; omega
            have hj30 : j < 30 := by omega
            have hv : IntKind.u8.wrap (65 + (IntKind.u8.wrap ((c0.toNat : Int) + IntKind.u8.wrap (j : Int))).tmod 26) = ((partC c0 j).toNat : Int) := partC_int c0 j hj30
            have hl : ¬ 9223372036854775807 < (partB c0 j).length + 1 := by rw [partB_len]; omega
            have hconv := one_conv wr (partC c0 j)
            go_wp2
            go_region_law (fail)
            all_goals go_wp2
            all_goals go_roundw
            all_goals first
              | (refine ⟨j + 1, by omega, by go_num, ?_⟩
                 have h := HS.out.next0 (partB c0 (j + 1)) (.cells #[.int .u8 (partC c0 j).toNat] 5)
                 rw [partB_snoc] at h ⊢
                 rw [app_one]
                 exact h)
              | (simp [intOf]; omega)
          · obtain rfl : j = n0.toNat % 30 := by omega
            have hd : decide (((n0.toNat % 30 : Nat) : Int) < (n0.toNat : Int) % 30) = false := by simp
            go_wp2
            go_roundw
            case rel => exact ⟨1, by omega, rfl, by simpa [upTo] using HS⟩
            case measure => simp [intOf]
      · simp only [show ((1 : Nat) : Int) = 1 from rfl]
        have hs := HS.out
        simp only [St] at hs
        obtain ⟨⟨p0, p1, p2⟩, ⟨q0, q1, q2⟩, ⟨s0, s1, s2⟩, ⟨f0, f1, f2⟩, hb, hz⟩ := hs
        have hm : (wrap64 (n1.toNat : Int)).tmod 30 = ((n1.toNat % 30 : Nat) : Int) := rem30 n1
        go_wp2
        go_loopw [7] (fun i wr => ∃ j : Nat, j ≤ n1.toNat % 30 ∧ i = .int .i64 j ∧ Hid (St w wr (n0, n1, n2) (c0, c1, c2) (partB c0 (n0.toNat % 30)) (partB c1 j) [])) (fun i _ => n1.toNat % 30 - (intOf i).toNat)
        case atStart => exact ⟨0, Nat.zero_le _, rfl, by simpa [upTo, partB] using HS⟩
        case round =>
          clear p0 p1 p2 q0 q1 q2 s0 s1 s2 f0 f1 f2 hb hz HS
          obtain ⟨j, hj, rfl, HS⟩ := hrel
          have hs := HS.out
          simp only [St] at hs
          obtain ⟨⟨p0, p1, p2⟩, ⟨q0, q1, q2⟩, ⟨s0, s1, s2⟩, ⟨f0, f1, f2⟩, hb, hz⟩ := hs
          by_cases hlt : j < n1.toNat % 30
          · have hd : decide ((j : Int) < (n1.toNat : Int) % 30) = true := by simp; omega
            have hj30 : j < 30 := by omega
            have hv : IntKind.u8.wrap (65 + (IntKind.u8.wrap ((c1.toNat : Int) + IntKind.u8.wrap (j : Int))).tmod 26) = ((partC c1 j).toNat : Int) := partC_int c1 j hj30
            have hl : ¬ 9223372036854775807 < (partB c1 j).length + 1 := by rw [partB_len]; omega
            have hconv := one_conv wr (partC c1 j)
            go_wp2
            go_region_law (fail)
            all_goals go_wp2
            all_goals go_roundw
            all_goals first
              | (refine ⟨j + 1, by omega, by go_num, ?_⟩
                 have h := HS.out.next1 (partB c1 (j + 1)) (.cells #[.int .u8 (partC c1 j).toNat] 5)
                 rw [partB_snoc] at h ⊢
                 rw [app_one]
                 exact h)
              | (simp [intOf]; omega)
          · obtain rfl : j = n1.toNat % 30 := by omega
            have hd : decide (((n1.toNat % 30 : Nat) : Int) < (n1.toNat : Int) % 30) = false := by simp
            go_wp2
            go_roundw
            case rel => exact ⟨2, by omega, rfl, by simpa [upTo] using HS⟩
            case measure => simp [intOf]
      · simp only [show ((2 : Nat) : Int) = 2 from rfl]
        have hs := HS.out
        simp only [St] at hs
        obtain ⟨⟨p0, p1, p2⟩, ⟨q0, q1, q2⟩, ⟨s0, s1, s2⟩, ⟨f0, f1, f2⟩, hb, hz⟩ := hs
        have hm : (wrap64 (n2.toNat : Int)).tmod 30 = ((n2.toNat % 30 : Nat) : Int) := rem30 n2
        go_wp2
        go_loopw [7] (fun i wr => ∃ j : Nat, j ≤ n2.toNat % 30 ∧ i = .int .i64 j ∧ Hid (St w wr (n0, n1, n2) (c0, c1, c2) (partB c0 (n0.toNat % 30)) (partB c1 (n1.toNat % 30)) (partB c2 j))) (fun i _ => n2.toNat % 30 - (intOf i).toNat)
        case atStart => exact ⟨0, Nat.zero_le _, rfl, by simpa [upTo, partB] using HS⟩
        case round =>
          clear p0 p1 p2 q0 q1 q2 s0 s1 s2 f0 f1 f2 hb hz HS
          obtain ⟨j, hj, rfl, HS⟩ := hrel
          have hs := HS.out
          simp only [St] at hs
          obtain ⟨⟨p0, p1, p2⟩, ⟨q0, q1, q2⟩, ⟨s0, s1, s2⟩, ⟨f0, f1, f2⟩, hb, hz⟩ := hs
          by_cases hlt : j < n2.toNat % 30
          · have hd : decide ((j : Int) < (n2.toNat : Int) % 30) = true := by simp; omega
            have hj30 : j < 30 := by omega
            have hv : IntKind.u8.wrap (65 + (IntKind.u8.wrap ((c2.toNat : Int) + IntKind.u8.wrap (j : Int))).tmod 26) = ((partC c2 j).toNat : Int) := partC_int c2 j hj30
            have hl : ¬ 9223372036854775807 < (partB c2 j).length + 1 := by rw [partB_len]; omega
            have hconv := one_conv wr (partC c2 j)
            go_wp2
            go_region_law (fail)
            all_goals go_wp2
            all_goals go_roundw
            all_goals first
              | (refine ⟨j + 1, by omega, by go_num, ?_⟩
                 have h := HS.out.next2 (partB c2 (j + 1)) (.cells #[.int .u8 (partC c2 j).toNat] 5)
                 rw [partB_snoc] at h ⊢
                 rw [app_one]
                 exact h)
              | (simp [intOf]; omega)
          · obtain rfl : j = n2.toNat % 30 := by omega
            have hd : decide (((n2.toNat % 30 : Nat) : Int) < (n2.toNat : Int) % 30) = false := by simp
            go_wp2
            go_roundw
            case rel => exact ⟨3, by omega, rfl, by simpa [upTo] using HS⟩
            case measure => simp [intOf]
    · obtain rfl : k = 3 := by omega
      have hs := HS.out
      simp only [St, upTo, show (0 : Nat) < 3 from by omega, show (1 : Nat) < 3 from by omega, show (2 : Nat) < 3 from by omega, if_true] at hs
      have k0 := partB_letters c0 (n0.toNat % 30)
      have k1 := partB_letters c1 (n1.toNat % 30)
      have k2 := partB_letters c2 (n2.toNat % 30)
      have m0 : (partB c0 (n0.toNat % 30)).length ≤ 30 := by rw [partB_len]; omega
      have m1 : (partB c1 (n1.toNat % 30)).length ≤ 30 := by rw [partB_len]; omega
      have m2 : (partB c2 (n2.toNat % 30)).length ≤ 30 := by rw [partB_len]; omega
      clear HS
      generalize partB c0 (n0.toNat % 30) = a at *
      generalize partB c1 (n1.toNat % 30) = b at *
      generalize partB c2 (n2.toNat % 30) = d at *
      obtain ⟨⟨p0, p1, p2⟩, ⟨q0, q1, q2⟩, ⟨s0, s1, s2⟩, ⟨f0, f1, f2⟩, hb, hz⟩ := hs
      clear p0 p1 p2 q0 q1 q2 f0 f1 f2
      have hlen := joinL_len a b d
      have hsum := rightJ_sum k0 k1 k2 m0 m1 m2
      cases eb : b.isEmpty
      · have eb' : ¬ b = [] := fun e => by rw [e] at eb; cases eb
        cases hR : rightJ a b d
        · have hJ := Lib.hid fun w => print_any a b d w (by omega) (by omega) (by omega)
          rw [show printJ a b d = [] by simp [printJ, hR], show errJ (rightJ a b d) = 3 by rw [hR]; rfl] at hJ
          rw [hR, eb] at hsum
          clear hlen hR
          cases ea : a.isEmpty <;> cases ed : d.isEmpty
          all_goals (rw [ea, ed] at hsum; simp at hsum)
          all_goals go_wp2_with (first
            | (exfalso; omega)
            | (go_at_call 13; refine (hJ.out _).mono ?_; rintro e w1 ⟨rfl, hb1⟩; have h1 := Lib.hid hb1; obtain ⟨hc1, hz1⟩ := bat hb1 (w.heap.size + 1 + 1) (by simp; omega); clear hb1)
            | (go_at_call 12; refine (hL.out _).mono ?_; rintro e w5 ⟨rfl, hb5⟩; have h5 := Lib.hid hb5; clear hb5))
          all_goals (go_ret; exact ⟨by simp, belowT (belowT (belowA hb _) h1.out) h5.out⟩)
        · have hJ := Lib.hid fun w => print_any a b d w (by omega) (by omega) (by omega)
          rw [show printJ a b d = joinL a b d by simp [printJ, hR], show errJ (rightJ a b d) = 0 by rw [hR]; rfl] at hJ
          have hQ := Lib.hid fun w => parse_any (joinL a b d) w (by have := (rightJ_parts hR).2.2.2.2.1; omega)
          rw [show parseV (joinL a b d) = .tuple #[.agg #[.string ⟨a.toArray⟩, .string ⟨b.toArray⟩, .string ⟨d.toArray⟩], .int .i64 0] by unfold parseV; rw [parse_join hR]] at hQ
          rw [hR, eb] at hsum
          clear hR
          cases ea : a.isEmpty <;> cases ed : d.isEmpty
          all_goals (rw [ea, ed] at hsum hlen; simp at hsum hlen)
          all_goals go_wp2_with (first
            | (exfalso; omega)
            | (go_at_call 13; refine (hJ.out _).mono ?_; rintro e w1 ⟨rfl, hb1⟩; have h1 := Lib.hid hb1; obtain ⟨hc1, hz1⟩ := bat hb1 (w.heap.size + 1 + 1) (by simp; omega); obtain ⟨hd1, hy1⟩ := bat hb1 wr.heap.size (by simp); have q1 : wr.heap.size < w1.heap.size := (by have := hb1.size; simp at this; omega); clear hb1)
            | (go_at_call 10; refine (hQ.out _).mono ?_; rintro e w3 ⟨rfl, hb3⟩; have h3 := Lib.hid hb3; obtain ⟨hc3, hz3⟩ := bat hb3 wr.heap.size q1; have q3 : wr.heap.size < w3.heap.size := (by have := hb3.size; omega); clear hb3)
            | (go_at_call 12; refine (hL.out _).mono ?_; rintro e w5 ⟨rfl, hb5⟩; have h5 := Lib.hid hb5; obtain ⟨hc5, hz5⟩ := bat hb5 w3.heap.size (by simp); obtain ⟨hd5, hy5⟩ := bat hb5 wr.heap.size (by simp; omega); clear hb5))
          all_goals (go_ret; exact ⟨(by simp <;> omega), belowT (belowA (belowT (belowT (belowA hb _) h1.out) h3.out) _) h5.out⟩)
      · have eb' : b = [] := List.isEmpty_iff.1 eb
        subst eb'
        have hR : rightJ a [] d = false := by rw [hsum]; rfl
        have hJ := Lib.hid fun w => print_any a [] d w (by omega) (by omega) (by omega)
        rw [show printJ a [] d = [] by simp [printJ, hR], show errJ (rightJ a [] d) = 3 by rw [hR]; rfl] at hJ
        clear hlen hR hsum
        go_wp2_with (first
          | (go_at_call 13; refine (hJ.out _).mono ?_; rintro e w1 ⟨rfl, hb1⟩; have h1 := Lib.hid hb1; obtain ⟨hc1, hz1⟩ := bat hb1 (w.heap.size + 1 + 1) (by simp; omega); clear hb1)
          | (go_at_call 12; refine (hL.out _).mono ?_; rintro e w5 ⟨rfl, hb5⟩; have h5 := Lib.hid hb5; clear hb5))
        all_goals (go_ret; exact ⟨by simp, belowT (belowT (belowA hb _) h1.out) h5.out⟩)
end Go.Proofs.Ytpfipkdnjoihdaa
