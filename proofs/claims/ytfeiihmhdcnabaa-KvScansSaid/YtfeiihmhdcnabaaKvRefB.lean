/-
  The reference's maps: Bytes, Size. Condition: the map's pairs are right (okE).
-/
import Derived.Test.YtfeiihmhdcnabaaKvRef4
import Derived.Test.YtfeiihmhdcnabaaKvBytes
namespace Go.Proofs.Ytfeiihmhdcnabaa
set_option linter.unusedVariables false
set_option linter.unusedSimpArgs false
open Go.RowKit Go.MapKept
/-- how things stand between two steps: the loop variable's box holds x; v owns l -/
structure PSt (base Bx : Nat) (x : Txt × Txt) (v : Value) (l : List UInt8) (W : World) : Prop where
  pair : W.heap[Bx]? = some (.cells #[.string ⟨x.1.toArray⟩, .string ⟨x.2.toArray⟩] 39)
  row : OwnU W base v l
theorem PSt.cells {base Bx : Nat} {x : Txt × Txt} {v : Value} {l : List UInt8} {W : World} (h : PSt base Bx x v l W) : W.cell? ⟨Bx, 0, none⟩ = some (.string ⟨x.1.toArray⟩) ∧ W.cell? ⟨Bx, 1, none⟩ = some (.string ⟨x.2.toArray⟩) :=
  ⟨by rw [(obj_cells h.pair).1]; rfl, by rw [(obj_cells h.pair).1]; rfl⟩
theorem PSt.made {base Bx : Nat} {x : Txt × Txt} {v : Value} {l : List UInt8} {W : World} (h : PSt base Bx x v l W) (o : Obj) : PSt base Bx x v l (W.alloc o) := ⟨obj_alloc h.pair, h.row.alloc o⟩
theorem PSt.drew {base Bx : Nat} {x : Txt × Txt} {v : Value} {l : List UInt8} {W : World} (h : PSt base Bx x v l W) : PSt base Bx x v l W.drew := ⟨h.pair, h.row⟩
theorem PSt.appended {base Bx : Nat} {x : Txt × Txt} {v v' : Value} {l l' : List UInt8} {W W' : World} (h : PSt base Bx x v l W) (hg : W.grownBy W' v.ownBlock) (hr : OwnU W' base v' l') : PSt base Bx x v' l' W' :=
  ⟨(hg.block Bx (Array.getElem?_eq_some_iff.1 h.pair).1 (cells_not_row h.pair (by decide) h.row)).trans h.pair, hr⟩
theorem bel_row {base : Nat} {v : Value} {l : List UInt8} {w W W' : World} (hb : Below base w W) (hn : base ≤ W.heap.size) (hr : OwnU W base v l) (hg : W.grownBy W' v.ownBlock) : Below base w W' := hb.grown hg hn (fun k hk => (hr.lt k hk).1)
theorem belowA' {B : Nat} {w W : World} (h : Below B w W) (hn : B ≤ W.heap.size) (o : Obj) : Below B w (W.alloc o) := h.alloc hn o
theorem bytes_snocE {E : Ats} {k : Nat} (h : k < E.length) : bytesE (E.take (k + 1)) = bytesE (E.take k) ++ [UInt8.ofNat (E[k]'h).1.length] ++ (E[k]'h).1 ++ [UInt8.ofNat ((E[k]'h).2.length / 256), UInt8.ofNat (E[k]'h).2.length] ++ (E[k]'h).2 := by
  rw [List.take_add_one, List.getElem?_eq_getElem h, bytes_app]
  simp [bytesE, pairB]
set_option maxRecDepth 100000 in
set_option maxHeartbeats 4000000 in
theorem refBytes_any (g : Nat) (E : Ats) (w : World) (h : RfS w g E) :
    Calls Try.prog 32 #[.pointer (some ⟨g, 0, none⟩)] w fun e w' => ∃ sv, e = .returned sv ∧ OwnU w' w.heap.size sv (bytesE E) ∧ Below w.heap.size w w' := by
  obtain ⟨i0, hi, hz0, hz1, hz2⟩ := info_parts infoU
  have hbl := fun k => bytes_le (E := E.take k) (fun e he => h.1.2.2 e (List.take_subset _ _ he))
  have hxl : Hid (∀ e ∈ E, e.1.length ≤ 64 ∧ e.2.length ≤ 4096) := Lib.hid fun e he => ⟨(h.1.2.2 e he).2.1, (h.1.2.2 e he).2.2⟩
  replace hbl := Lib.hid hbl
  obtain ⟨hok, ptr, cap, hg, hA⟩ := h
  have hl := hok.2.1
  obtain ⟨hcell0, hfz, hgs⟩ := obj_cells hg
  replace hcell0 := hcell0 0
  simp at hcell0
  obtain ⟨N, hN⟩ : ∃ N, E.length = N := ⟨_, rfl⟩
  rw [hN] at hl hcell0
  rw [hN] at hA
  obtain ⟨p', c', he, -, -, hat⟩ := hA
  obtain ⟨rfl, -, rfl⟩ := Value.slice.inj he
  clear hg hok he hfz
  replace hN := Lib.hid hN
  replace hat := Lib.hid hat
  replace hcell0 := Lib.hid hcell0
  go_enter Try.func32, Try.ntmps32
  go_wp2
  go_loopw [3, 4] (fun s3 s4 wr => ∃ k : Nat, k ≤ N ∧ s4 = .int .i64 k ∧ Hid (OwnU wr w.heap.size s3 (bytesE (E.take k))) ∧ Hid (Below w.heap.size w wr)) (fun _ s4 _ => N - (intOf s4).toNat)
  case atStart => exact ⟨0, Nat.zero_le _, rfl, Lib.hid (World.ownsRow_nil _ _ _ _), Lib.hid (Below.refl _ _)⟩
  case round =>
    obtain ⟨k, hk, rfl, hO, hB⟩ := hrel
    obtain ⟨na, nc, rfl⟩ := owns_shp hO.out
    have hcell := (hB.out.cell (p := ⟨g, 0, none⟩) hgs).trans hcell0.out
    have hsz := hB.out.size
    by_cases hlt : k < N
    · have hk3 : k < E.length := by have := hN.out; omega
      obtain ⟨b, o, rfl, hb, hcc⟩ := hat.out (by omega)
      obtain ⟨d0, d1⟩ := hcc k hk3
      have kc := fun (j : Nat) => hB.out.cell (p := ⟨b, j, none⟩) hb
      replace d0 := (kc _).trans d0
      replace d1 := (kc _).trans d1
      have hsn := bytes_snocE hk3
      have hbn : (bytesE (E.take k)).length ≤ 4163 * 128 := by
        have := hbl.out k
        have h2 : (E.take k).length ≤ 128 := by rw [List.length_take]; omega
        omega
      obtain ⟨hx1, hx2⟩ := hxl.out _ (List.getElem_mem hk3)
      clear hcc kc
      generalize hE : E[k] = x at d0 d1 hsn hx1 hx2
      obtain ⟨ch, pa⟩ := x
      simp only at d0 d1 hsn hx1 hx2
      clear hE
      replace hsn := Lib.hid hsn
      have hki : (k : Int) < (N : Int) := by omega
      have hk0 : (0 : Int) ≤ (k : Int) := by omega
      have hbw : b < wr.heap.size := Nat.lt_of_lt_of_le hb hsz
      have hgw : g < wr.heap.size := Nat.lt_of_lt_of_le hgs hsz
      have s0 : PSt w.heap.size wr.heap.size (ch, pa) (.slice na (bytesE (E.take k)).length nc) (bytesE (E.take k)) (wr.alloc (.cells #[.string ⟨ch.toArray⟩, .string ⟨pa.toArray⟩] 39)) := ⟨al_newK _ _, hO.out.alloc _⟩
      have hB0 := belowA hB.out (.cells #[.string ⟨ch.toArray⟩, .string ⟨pa.toArray⟩] 39)
      generalize bytesE (E.take k) = bs at hbn hsn s0 hO
      clear hO
      go_wp2_with fail
      generalize wr.alloc (.cells #[.string ⟨ch.toArray⟩, .string ⟨pa.toArray⟩] 39) = V at s0 hB0 ⊢
      have hszV := hB0.size
      refine wp_region_chain [5, 6, 9, 10] true (by kernel_rfl) (by kernel_rfl) rfl (by kernel_rfl) (fun W' => W'.cell? ⟨wr.heap.size, 0, none⟩ = some (.string ⟨ch.toArray⟩) ∧ W'.cell? ⟨wr.heap.size, 1, none⟩ = some (.string ⟨pa.toArray⟩)) ?_
      simp only [List.toList_toArray]
      repeat (first
        | (apply FloC.skip; · rfl)
        | (apply FloC.val; · rfl
           · (intro Wx _; rfl)
           · rfl
           · (rintro Wx ⟨c0, c1⟩; go_simp; with_reducible rfl)
           simp only [Act.put, List.setIfInBounds_toArray, List.set_cons_zero, List.set_cons_succ]))
      refine FloC.nil ?_
      refine ChainRun.step s0.cells rfl ?_
      gi_wp2
      have s1 := (s0.made (.cells #[.int .u8 (ch.length : Int)] 5)).drew
      have hB1 := (belowA hB0 (.cells #[.int .u8 (ch.length : Int)] 5)).drew
      have hnew := cells_new (al_newK V (.cells #[.int .u8 (ch.length : Int)] 5))
      have hsz1 := hB1.size
      refine ChainRun.step s1.cells rfl ?_
      refine wpListIn_append_own _ rfl _ _ 26 rfl w.heap.size 5 i0 (.int .u8 0) 1 1 Try.underlying26 hi hz0 hz1 hz2 rfl (by decide) _ _ _ rfl s1.row ⟨V.heap.size, 0, none⟩ 1 1 [.int .u8 (ch.length : Int)] rfl rfl hnew (by simp [Value.oneCell']) (by unfold maxLen; omega) (by omega) (by omega) ?_
      intro v2 w2 hO2 hg2 _
      have s2 := s1.appended hg2 (ownU_snoc _ hO2 (u8_of (by omega)))
      have hB2 := bel_row hB1 (by omega) s1.row hg2
      have hsz2 := hB2.size
      refine ChainRun.next rfl ?_
      refine ChainRun.step s2.cells rfl ?_
      refine wpListIn_append_str _ rfl _ _ 26 9 rfl w.heap.size 5 i0 Try.underlying26 Try.underlying9 hi hz0 hz1 hz2 _ _ _ rfl s2.row ⟨ch.toArray⟩ rfl (by unfold maxLen; simp [ByteArray.size]; omega) (by simp [ByteArray.size]; omega) (by omega) ?_
      intro v3 w3 hO3 hg3 _
      have s3 := s2.appended hg3 (ownU_str hO3)
      have hB3 := bel_row hB2 (by omega) s2.row hg3
      have hsz3 := hB3.size
      refine ChainRun.next rfl ?_
      refine ChainRun.step s3.cells rfl ?_
      gi_wp2
      refine ChainRun.last ?_
      have hb2 : (bs ++ [UInt8.ofNat ch.length] ++ ch).length ≤ 4163 * 128 + 65 := by simp; omega
      have hvd : Hid ((pa.length : Int) / 256 = ((UInt8.ofNat (pa.length / 256)).toNat : Int)) := Lib.hid (by rw [← u8_of (by omega)]; rfl)
      have hvm : Hid ((pa.length : Int) % 256 = ((UInt8.ofNat pa.length).toNat : Int)) := Lib.hid (by simp)
      clear s0 s1 s2 hB0 hB1 hB2 hO2 hg2 hO3 hg3 hnew
      generalize bs ++ [UInt8.ofNat ch.length] ++ ch = bs2 at s3 hsn hb2
      obtain ⟨na3, nc3, rfl⟩ := owns_shp s3.row
      go_wp2_with fail
      refine wp_region_chain [10, 11, 14, 15] true (by kernel_rfl) (by kernel_rfl) rfl (by kernel_rfl) (fun W' => W'.cell? ⟨wr.heap.size, 0, none⟩ = some (.string ⟨ch.toArray⟩) ∧ W'.cell? ⟨wr.heap.size, 1, none⟩ = some (.string ⟨pa.toArray⟩)) ?_
      simp only [List.toList_toArray]
      repeat (first
        | (apply FloC.skip; · rfl)
        | (apply FloC.val; · rfl
           · (intro Wx _; rfl)
           · rfl
           · (rintro Wx ⟨c0, c1⟩; go_simp; with_reducible rfl)
           simp only [Act.put, List.setIfInBounds_toArray, List.set_cons_zero, List.set_cons_succ]))
      refine FloC.nil ?_
      refine ChainRun.step s3.cells rfl ?_
      gi_wp2
      have s5 := (s3.made (.cells #[.int .u8 ((pa.length : Int) / 256), .int .u8 ((pa.length : Int) % 256)] 5)).drew
      have hB5 := (belowA' hB3 hsz3 (.cells #[.int .u8 ((pa.length : Int) / 256), .int .u8 ((pa.length : Int) % 256)] 5)).drew
      have hnew := cells_new (al_newK w3 (.cells #[.int .u8 ((pa.length : Int) / 256), .int .u8 ((pa.length : Int) % 256)] 5))
      have hsz5 := hB5.size
      refine ChainRun.step s5.cells rfl ?_
      refine wpListIn_append_own _ rfl _ _ 26 rfl w.heap.size 5 i0 (.int .u8 0) 1 1 Try.underlying26 hi hz0 hz1 hz2 rfl (by decide) _ _ _ rfl s5.row ⟨w3.heap.size, 0, none⟩ 2 2 [.int .u8 ((pa.length : Int) / 256), .int .u8 ((pa.length : Int) % 256)] rfl rfl hnew (by simp [Value.oneCell']) (by unfold maxLen; omega) (by omega) (by omega) ?_
      intro v6 w6 hO6 hg6 _
      have s6 := s5.appended hg6 (ownU_two hO6 hvd.out hvm.out)
      have hB6 := bel_row hB5 (by omega) s5.row hg6
      have hsz6 := hB6.size
      refine ChainRun.next rfl ?_
      refine ChainRun.step s6.cells rfl ?_
      refine wpListIn_append_str _ rfl _ _ 26 9 rfl w.heap.size 5 i0 Try.underlying26 Try.underlying9 hi hz0 hz1 hz2 _ _ _ rfl s6.row ⟨pa.toArray⟩ rfl (by unfold maxLen; simp [ByteArray.size]; omega) (by simp [ByteArray.size]; omega) (by omega) ?_
      intro v7 w7 hO7 hg7 _
      have s7 := s6.appended hg7 (ownU_str hO7)
      have hB7 := bel_row hB6 (by omega) s6.row hg7
      refine ChainRun.next rfl ?_
      refine ChainRun.step s7.cells rfl ?_
      gi_wp2
      refine ChainRun.last ?_
      have s8 := s7.row
      clear s3 s5 s6 s7 hB3 hB5 hB6 hO6 hg6 hO7 hg7 hnew
      go_wp2
      go_roundw
      case rel =>
        refine ⟨k + 1, by omega, by simp, ?_, Lib.hid hB7⟩
        rw [hsn.out]
        exact Lib.hid s8
      case measure => simp [intOf]; omega
    · obtain rfl : k = N := by omega
      have e4 : E.take k = E := List.take_of_length_le (by have := hN.out; omega)
      rw [e4] at hO
      have hki : ¬ (k : Int) < (k : Int) := by omega
      go_wp2
      go_ret
      exact ⟨_, rfl, hO.out, hB.out⟩
end Go.Proofs.Ytfeiihmhdcnabaa
