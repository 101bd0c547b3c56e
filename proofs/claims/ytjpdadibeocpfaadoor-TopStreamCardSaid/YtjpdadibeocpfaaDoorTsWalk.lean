/-
  The walk of TopStream. No condition.
-/
import Derived.Test.YtjpdadibeocpfaaDoorTcA
import Derived.Test.YtjpdadibeocpfaaDoorTsPure
import Derived.Test.YtjpdadibeocpfaaDoorByMem
import Derived.Test.YtjpdadibeocpfaaDoorWrPrint
import Derived.Lib.SlBytesConst
namespace Go.Proofs.YtjpdadibeocpfaaDoor
set_option linter.unusedVariables false
set_option linter.unusedSimpArgs false
open Go.RowKit Go.MapKept Go.Proofs
theorem TkO.head {n : Nat} {w : World} {a : Option Addr} {c m : Nat} {tk : Tk} {l : List Tk} (h : TkO n w (.slice a m c) (tk :: l)) : ∃ g, a = some ⟨g, 0, none⟩ ∧ g < w.heap.size ∧ w.cell? ⟨g, 1, none⟩ = some (.string ⟨tk.n.toArray⟩) := by
  obtain ⟨ps, hps, ho, -⟩ := h
  cases ps with
  | nil => cases hps
  | cons p r =>
    rw [List.map_cons] at hps
    injection hps with h1 h2
    obtain ⟨g, c', hv, -, hgl⟩ := owns_head ho (by simp)
    obtain ⟨e1, e2, e3⟩ := Value.slice.inj hv
    subst e1 e2 e3
    have := World.ownsRow.cells ho (g := g) rfl 1 (.string ⟨tk.n.toArray⟩) (by rw [tkCells_cons, ← h1]; rfl)
    rw [Addr.add_lit, Nat.zero_add] at this
    exact ⟨g, rfl, hgl, this⟩
theorem lit_cellsF (w : World) (s : List UInt8) (fz : Nat × Nat) : ∀ j (h : j < s.length), (w.alloc (.cells (s.map fun c => Value.int .u8 (c.toNat : Int)).toArray 5 fz)).cell? ⟨w.heap.size, j, none⟩ = some (.int .u8 ((s[j]'h).toNat : Int)) := fun j h => by
  have := (heap_alloc w (.cells (s.map fun c => Value.int .u8 (c.toNat : Int)).toArray 5 fz)).1
  unfold World.cell?
  simp only [this]
  simp [h]
set_option maxRecDepth 100000 in
set_option maxHeartbeats 8000000 in
theorem topStream_walk (v0 : Value) (a : List UInt8) (w : World) (h0 : BySl w v0 a) :
    Calls Tryd.prog 3 #[v0] w fun e w' => e = .returned (.bool true) ∧ Below w.heap.size w w' := by
  obtain ⟨ptr, cap, rfl, hcap, hcapm, hcells⟩ := h0
  replace hcells := Lib.hid hcells
  have hcc := fun (w : World) (C : Array Value) (n c : Nat) => Lib.run_convert_bytes_const (P := Tryd.prog) w 22 5 C n c Tryd.underlying22 Tryd.underlying5
  go_enter Tryd.func3, Tryd.ntmps3
  go_wp2_with (first
    | (go_at_call 6; refine (xnew_any _).mono ?_; rintro e w4 ⟨rfl, hw4⟩
       have hP4 : PsAt (fun _ => False) (w.heap.size + 1) w.heap.size w4 ⟨[], 0, [], false⟩ := by rw [hw4]; exact new_ps w
       have hb4 : Below w.heap.size w w4 := by rw [hw4]; exact below1 _ _
       have hs4 : w4.heap.size = w.heap.size + 1 := by rw [hw4, World.size_alloc]
       clear hw4
       have hF1 : Hid (Calls Tryd.prog 7 #[.pointer (some ⟨w.heap.size, 0, none⟩), .slice (some ⟨w4.heap.size, 0, none⟩) 8 8] (w4.alloc (.cells #[.int .u8 60, .int .u8 115, .int .u8 116, .int .u8 114, .int .u8 101, .int .u8 97, .int .u8 109, .int .u8 62] 5 (8, 9))) fun e w' => ∃ v, e = .returned (.tuple #[v, .int .i64 0]) ∧ TkO w4.heap.size w' v [⟨1, stN, [], []⟩] ∧ PsAt (fun _ => False) (w.heap.size + 1) w.heap.size w' ⟨[], 0, [stN], true⟩ ∧ FeedK w.heap.size w4 w') :=
         Lib.hid (xfeed_at (w.heap.size + 1) w.heap.size w4.heap.size 8 [60, 115, 116, 114, 101, 97, 109, 62] _ _ _ w4 _ hP4 (by omega) (below1 _ _) (Nat.le_refl _) (by rw [World.size_alloc]; omega) (lit_cellsF w4 _ _) st_open (by decide) (by decide) (by decide))
       replace hP4 := Lib.hid hP4
       replace hb4 := Lib.hid hb4
       replace hs4 := Lib.hid hs4)
    | (go_at_call 7; refine hF1.out.mono ?_; rintro e w6 ⟨v1, rfl, hK1, hP6, hf6⟩
       obtain ⟨va1, vc1, rfl⟩ := hK1.val
       have hs6 := hf6.2.2.2.1
       have hb6 := Lib.hid (hf6.below hb4.out hP4.out (Nat.le_refl _) (by omega))
       replace hP6 := Lib.hid hP6
       clear hK1 hf6))
  clear hF1 hb4 hs4 hs6
  go_loopw [6] (fun s6 wr => ∃ i : Nat, i ≤ a.length ∧ s6 = .int .i64 i ∧ Hid (PsAt (fun _ => False) (w.heap.size + 1) w.heap.size wr ⟨[], 0, [stN], true⟩) ∧ Hid (Below w.heap.size w wr) ∧ w.heap.size < wr.heap.size) (fun s6 _ => a.length - (intOf s6).toNat)
  case atStart => exact ⟨0, by omega, rfl, hP6, hb6, by obtain ⟨-, wv, ov, an, ho, -⟩ := hP6.out; exact (obj_cells ho).2.2⟩
  case round =>
    obtain ⟨i, hia, rfl, hPr, hbr, hzr⟩ := hrel
    by_cases hlt : i < a.length ∧ i < 40
    · obtain ⟨h1, h2⟩ := hlt
      have q1 : (i : Int) < (a.length : Int) := by omega
      have q2 : (i : Int) < 40 := by omega
      obtain ⟨b, o, rfl, hbl, hcs⟩ := hcells.out (by omega)
      have hcell : wr.cell? ⟨b, o + i, none⟩ = some (.int .u8 ((a[i]'h1).toNat : Int)) := (hbr.out.cell (p := ⟨b, o + i, none⟩) hbl).trans (hcs i h1)
      have hbl2 : b < wr.heap.size := by omega
      generalize (a[i]'h1) = x at hcell
      go_upto_region 8 with (fail)
      go_cut [7] (fun v7 W => ∃ y : UInt8, (97 ≤ y.toNat ∧ y.toNat ≤ 122) ∧ v7 = .string ⟨[y].toArray⟩ ∧ Hid (Below wr.heap.size wr W))
      case first =>
        obtain ⟨y, hy, hyx⟩ : ∃ y : UInt8, (97 ≤ y.toNat ∧ y.toNat ≤ 122) ∧ (y.toNat : Int) = 97 + (x.toNat : Int) % 26 := by
          refine ⟨UInt8.ofNat (97 + x.toNat % 26), ?_, ?_⟩ <;> simp <;> omega
        have hconv := own_back (base := 0) (v := .slice (some ⟨wr.heap.size, 0, none⟩) 1 1) (l := [y]) (w := wr.alloc (.cells #[.int .u8 (y.toNat : Int)] 5)) ⟨rfl, .inr ⟨wr.heap.size, 1, _, rfl, Nat.zero_le _, bare_pb wr _, Nat.le_refl _, by unfold maxLen; decide, rfl, rfl⟩⟩
        rw [hyx] at hconv
        replace hyx := Lib.hid hyx
        go_wp2_with fail
        go_meet
        exact ⟨y, hy, rfl, Lib.hid (below1 _ _)⟩
      obtain ⟨y, hy, rfl, hbW⟩ := hcut
      obtain ⟨W1, hW1⟩ : ∃ W1, W1 = wc := ⟨_, rfl⟩
      subst hW1
      have hEl := Lib.hid (element_any [y] (.slice none 0 0) (.slice none 0 0) [] [] W1 ⟨none, 0, rfl, by simp, by simp, fun h => absurd h (by simp)⟩ (by simp) ⟨none, 0, rfl, by simp, by simp, fun h => absurd h (by simp)⟩ (by simp) (fun tk ht => by cases ht))
      have hsm : ∀ tk ∈ ([⟨1, [y], [], []⟩, ⟨2, [y], [], []⟩] : List Tk), tk.small := fun tk ht => by
        simp only [List.mem_cons, List.not_mem_nil, or_false] at ht
        rcases ht with rfl | rfl <;> exact ⟨by simp, by simp, by simp, fun p hp => by cases hp⟩
      have hPg := fun v W h => print_good v [⟨1, [y], [], []⟩, ⟨2, [y], [], []⟩] W h hsm (st_right y hy)
      rw [st_print] at hPg
      have hTr := st_each y hy
      obtain ⟨t, ht⟩ : ∃ t, t = [60, y, 47, 62] := ⟨_, rfl⟩
      have htl : t.length = 4 := by rw [ht]; rfl
      rw [← ht] at hPg hTr
      replace hPg := Lib.hid hPg
      replace hTr := Lib.hid hTr
      replace ht := Lib.hid ht
      replace hsm := Lib.hid hsm
      replace hy := Lib.hid hy
      have hzt : (ByteArray.mk t.toArray).size = t.length := by simp [ByteArray.size]
      have htl' := Lib.hid htl
      clear htl
      go_wp2_with (first
        | (go_at_call 9; refine hEl.out.mono ?_; rintro e w1 ⟨v, rfl, hT1, hb1⟩
           obtain ⟨va, vc, hv⟩ := hT1.shape
           change v = .slice va 2 vc at hv
           subst hv
           replace hT1 : Hid (TkS w1 (.slice va 2 vc) [⟨1, [y], [], []⟩, ⟨2, [y], [], []⟩]) := Lib.hid hT1
           replace hb1 := Lib.hid (belowT hbW.out hb1))
        | (go_at_call 8; refine (hPg.out _ _ hT1.out).mono ?_; rintro e w2 ⟨rfl, hb2⟩
           replace hb2 := belowT hb1.out hb2
           have hP2 := hPr.out.below hb2
           have hs2 := hb2.size
           have hcI := Lib.run_convert_string_bytes (P := Tryd.prog) w2 9 22 5 ⟨t.toArray⟩ Tryd.underlying9 Tryd.underlying22 Tryd.underlying5
           have hF := fun cap => xfeed_bytes (w.heap.size + 1) w.heap.size cap t _ _ _ w2 hP2 (by omega) hTr.out (by decide) (by simp) (by have := htl'.out; omega)
           rw [hzt] at hcI
           generalize Lib.bytesWorld w2 5 ⟨t.toArray⟩ = W5 at hcI hF
           generalize grownCap w2 t.length 0 5 = cap1 at hcI
           replace hF := Lib.hid hF
           replace hP2 := Lib.hid hP2
           replace hb2 := Lib.hid (belowT hbr.out hb2))
        | (go_at_call 7; refine (hF.out _).mono ?_; rintro e w6 ⟨v1, rfl, hK1, hP7, hf6⟩
           obtain ⟨va1, vc1, hv1⟩ := hK1.val
           change v1 = .slice va1 2 vc1 at hv1
           subst hv1
           obtain ⟨g, rfl, hgl, hgn⟩ := hK1.head
           have hs6 := hf6.2.2.2.1
           have hb7 := Lib.hid (hf6.below hb2.out hP2.out (Nat.le_refl _) (by omega))
           have hDp := Lib.hid (xdepth_any _ _ _ w6 hP7)
           replace hP7 := Lib.hid hP7
           clear hK1 hf6)
        | (go_at_call 10; refine hDp.out.mono ?_; rintro e w8 ⟨rfl, rfl⟩))
      go_roundw
      case rel => exact ⟨i + 1, by omega, by go_num, hP7, hb7, by omega⟩
      case measure => simp [intOf]; omega
    · have hcond : ¬ (i : Int) < (a.length : Int) ∨ ((i : Int) < (a.length : Int) ∧ ¬ (i : Int) < 40) := by omega
      clear hlt
      go_upto_region 6 with (fail)
      go_cut [38] (fun v38 W => v38 = .bool false ∧ wr = W)
      case first =>
        rcases hcond with h1 | ⟨h1, h2⟩
        · go_wp2_with fail
          go_meet
          exact ⟨rfl, rfl⟩
        · go_wp2_with fail
          go_meet
          exact ⟨rfl, rfl⟩
      obtain ⟨rfl, rfl⟩ := hcut
      clear hcond hP6 hb6
      have hF3 : Hid (Calls Tryd.prog 7 #[.pointer (some ⟨w.heap.size, 0, none⟩), .slice (some ⟨wr.heap.size, 0, none⟩) 9 9] (wr.alloc (.cells #[.int .u8 60, .int .u8 47, .int .u8 115, .int .u8 116, .int .u8 114, .int .u8 101, .int .u8 97, .int .u8 109, .int .u8 62] 5 (9, 10))) fun e w' => ∃ v, e = .returned (.tuple #[v, .int .i64 0]) ∧ TkO wr.heap.size w' v [⟨2, stN, [], []⟩] ∧ PsAt (fun _ => False) (w.heap.size + 1) w.heap.size w' ⟨[], 0, [], true⟩ ∧ FeedK w.heap.size wr w') :=
        Lib.hid (xfeed_at (w.heap.size + 1) w.heap.size wr.heap.size 9 [60, 47, 115, 116, 114, 101, 97, 109, 62] _ _ _ wr _ hPr.out (by omega) (below1 _ _) (Nat.le_refl _) (by rw [World.size_alloc]; omega) (lit_cellsF wr _ _) st_shut (by decide) (by decide) (by decide))
      have tok1 := Lib.hid True.intro
      go_wp2_with (first
        | (have m0 := tok2; go_at_call 7; refine hF4.out.mono ?_; rintro e w8 ⟨v2, rfl, hf8⟩
           have hb8 := Lib.hid (hf8.below hb6.out hP6.out (Nat.le_refl _) (by omega)))
        | (have m0 := tok1.out; go_at_call 7; refine hF3.out.mono ?_; rintro e w6 ⟨v1, rfl, hK1, hP6, hf6⟩
           obtain ⟨va1, vc1, hv1⟩ := hK1.val
           change v1 = .slice va1 1 vc1 at hv1
           subst hv1
           have hs6 := hf6.2.2.2.1
           have hb6 := Lib.hid (hf6.below hbr.out hPr.out (Nat.le_refl _) (by omega))
           have hF4 : Hid (Calls Tryd.prog 7 #[.pointer (some ⟨w.heap.size, 0, none⟩), .slice (some ⟨w6.heap.size, 0, none⟩) 3 3] (w6.alloc (.cells #[.int .u8 60, .int .u8 97, .int .u8 62] 5 (3, 4))) fun e w' => ∃ v, e = .returned (.tuple #[v, .int .i64 6]) ∧ FeedK w.heap.size w6 w') :=
             Lib.hid (xfall_at (w.heap.size + 1) w.heap.size w6.heap.size 3 [60, 97] [] [60, 97, 62] 62 6 _ _ _ w6 _ hP6 (by omega) (below1 _ _) (Nat.le_refl _) (by rw [World.size_alloc]; omega) (lit_cellsF w6 _ _) st_part st_fall rfl (by decide) (by decide) (by decide))
           replace hP6 := Lib.hid hP6
           clear hK1 hf6 tok1
           have tok2 := True.intro))
      go_ret
      exact ⟨rfl, hb8.out⟩
end Go.Proofs.YtjpdadibeocpfaaDoor
