/-
  Bytes, by the program: a loop over the iterator, each round two statements whose orders are open. Condition: the map's pairs are right (okE).
-/
import Derived.Test.YtfeiihmhdcnabaaKvSize
import Derived.Test.YtfeiihmhdcnabaaChain
import Derived.Lib.AppendStr
import Derived.Lib.UnsafeStr
import Derived.Maps.AppendAt
namespace Go.Proofs.Ytfeiihmhdcnabaa
set_option linter.unusedVariables false
set_option linter.unusedSimpArgs false
open Go.RowKit Go.MapKept Go.Shelf
attribute [local go_sem] Oper.semAt_some
theorem infoU : (Try.prog.info? 5).map (fun i => (i.zero, i.size, i.bytes)) = some (some (.int .u8 0), 1, 1) := by kernel_rfl
def OwnU (w : World) (base : Nat) (v : Value) (l : List UInt8) : Prop := w.ownsRow base 5 1 v l.length (Lib.byteCells l)
theorem ownU_snoc {w : World} {base : Nat} {v : Value} {l : List UInt8} {c : Int} (b : UInt8) (h : w.ownsRow base 5 1 v (l.length + 1) (Lib.byteCells l ++ [.int .u8 c])) (hc : c = (b.toNat : Int)) : OwnU w base v (l ++ [b]) := by
  subst hc
  show w.ownsRow base 5 1 v (l ++ [b]).length (Lib.byteCells (l ++ [b]))
  rw [Lib.byteCells_append, List.length_append]
  exact h
theorem ownU_str {w : World} {base : Nat} {v : Value} {l n : List UInt8} (h : w.ownsRow base 5 1 v (l.length + (ByteArray.mk n.toArray).size) (Lib.byteCells l ++ Lib.strCells ⟨n.toArray⟩)) : OwnU w base v (l ++ n) := by
  show w.ownsRow base 5 1 v (l ++ n).length (Lib.byteCells (l ++ n))
  rw [Lib.byteCells_append, List.length_append]
  exact h
theorem wpListIn_append_str {F : Fence} {n' : Nat} {P : Program} {ops : Array Oper} {rest : List Oper} {o : Oper} {a : Act} {Q : Exit → Act → World → Prop} (w : World) (hgd : o.guard = none) (sl x : Operand) (t u : TypeId)
    (ho : o.op = .call { callee := .builtin .append, args := #[sl, x], argTypes := #[t, u] })
    (base : Nat) (e : TypeId) (i : TypeInfo) (ht : P.underlying t = some (.slice e)) (hu : P.underlying u = some .string) (hi : P.info? e = some i) (hz : i.zero = some (.int .u8 0))
    (hsize : i.size = 1) (hby : i.bytes = 1)
    (v : Value) (n : Nat) (xs : List Value) (hs : a.eval sl = v) (hown : w.ownsRow base e 1 v n xs) (s : ByteArray) (hx : a.eval x = .string s)
    (h63 : n + s.size ≤ maxLen) (hbytes : n + s.size ≤ 140737488355328) (hbase : base ≤ w.heap.size)
    (h : ∀ v' w', w'.ownsRow base e 1 v' (n + s.size) (xs ++ Lib.strCells s) → w.grownBy w' v.ownBlock → (v' = .slice none 0 0 ↔ v = .slice none 0 0 ∧ s.size = 0) → wpListIn F n' P ops Q rest (a.put o.dst v') w') : wpListIn F n' P ops Q (o :: rest) a w := by
  refine wpListIn_plain hgd fun K hK => ?_
  obtain ⟨v', w', hr, h2, h3, h4⟩ := Lib.run_append_own_string (P := P) w base t u o.type e i ht hu hi hz hsize hby v n xs hown s h63 hbytes hbase
  unfold Oper.wpIn
  refine ⟨?_, ?_⟩
  · simp [Oper.about, ho, resolve, Target.leads, Sem.run_pure]
  · rw [Oper.semAt_plain F _ _ (by rw [ho]; intro c hc'; cases hc')]
    simp [execOp, ho, resolve, invoke, builtin, hs, hx, hr, Result.andThen]
    exact hK _ _ (h v' w' h2 h3 h4)
theorem bytes_snoc (pre : List PO) (x : PO) : bytesE ((pre ++ [x]).map (·.1)) = bytesE (pre.map (·.1)) ++ [UInt8.ofNat x.1.1.length] ++ x.1.1 ++ [UInt8.ofNat (x.1.2.length / 256), UInt8.ofNat x.1.2.length] ++ x.1.2 := by
  rw [List.map_append, bytes_app]
  simp [bytesE, pairB]
theorem cells_not_row {W : World} {B : Nat} {cs : Array Value} {t e : TypeId} {z : Nat × Nat} (h : W.heap[B]? = some (.cells cs t z)) (hte : t ≠ e) {base size k : Nat} {v : Value} {xs : List Value} (hr : W.ownsRow base e size v k xs) : some B ≠ v.ownBlock := by
  rcases hr.2 with ⟨rfl, _⟩ | ⟨g, cap, cur, rfl, _, hgb, _⟩
  · simp [Value.ownBlock]
  · intro e'
    obtain rfl : B = g := by simpa [Value.ownBlock] using e'
    rw [h] at hgb
    cases hgb
    exact hte rfl
/-- how things stand between two steps: the box holds u, the loop variable's box x; v owns l -/
structure BSt (w : World) (Bx : Nat) (x : PO) (u : Value) (v : Value) (l : List UInt8) (W : World) : Prop where
  box : Boxed W w.heap.size 26 u
  pair : PairAt W Bx x
  row : OwnU W (w.heap.size + 3) v l
theorem BSt.cells {w W : World} {Bx : Nat} {x : PO} {u v : Value} {l : List UInt8} (h : BSt w Bx x u v l W) : W.cell? ⟨w.heap.size, 0, none⟩ = some u ∧ W.cell? ⟨Bx, 0, none⟩ = some (.string ⟨x.1.1.toArray⟩) ∧ W.cell? ⟨Bx, 1, none⟩ = some (.string ⟨x.1.2.toArray⟩) :=
  ⟨h.box.cell, by rw [(obj_cells h.pair).1]; rfl, by rw [(obj_cells h.pair).1]; rfl⟩
theorem BSt.made {w W : World} {Bx : Nat} {x : PO} {u v : Value} {l : List UInt8} (h : BSt w Bx x u v l W) (o : Obj) : BSt w Bx x u v l (W.alloc o) := ⟨h.box.alloc o, obj_alloc h.pair, h.row.alloc o⟩
theorem BSt.drew {w W : World} {Bx : Nat} {x : PO} {u v : Value} {l : List UInt8} (h : BSt w Bx x u v l W) : BSt w Bx x u v l W.drew := ⟨h.box, h.pair, h.row⟩
theorem BSt.appended {w W W' : World} {Bx : Nat} {x : PO} {u v v' : Value} {l l' : List UInt8} (h : BSt w Bx x u v l W) (hg : W.grownBy W' v.ownBlock) (hr : OwnU W' (w.heap.size + 3) v' l') : BSt w Bx x u v' l' W' :=
  ⟨h.box.kept hg (h.box.not_row (by decide) h.row), (hg.block Bx (Array.getElem?_eq_some_iff.1 (show W.heap[Bx]? = _ from h.pair)).1 (cells_not_row h.pair (by decide) h.row)).trans h.pair, hr⟩
theorem BSt.stored {w W : World} {Bx : Nat} {x : PO} {u v : Value} {l : List UInt8} (h : BSt w Bx x u v l W) (hne : Bx ≠ w.heap.size) : BSt w Bx x v v l (W.setCell ⟨w.heap.size, 0, none⟩ v) :=
  ⟨h.box.set v, (Below.heap_setCell _ _ _ _ hne).trans h.pair, h.row.kept (grownBy_setCell' W w.heap.size v) (.inr (h.box.not_row (by decide) h.row).symm)⟩
/-- what is kept on the way -/
structure BKeep (w A C : World) : Prop where
  k : KeepK w.heap.size A C
  o : KeepsOthers A C
theorem BKeep.trans {w A B C : World} (h : BKeep w A B) (k : BKeep w B C) : BKeep w A C := ⟨h.k.trans k.k, h.o.trans k.o⟩
theorem BKeep.made (w A : World) (o : Obj) : BKeep w A (A.alloc o) := ⟨KeepK.grown (row := none) (World.grownBy_alloc A o none) (fun r e => by cases e), KeepsOthers.alloc _ _⟩
theorem BKeep.drew (w A : World) : BKeep w A A.drew := ⟨⟨rfl, rfl, rfl, Nat.le_refl _, fun _ _ _ => rfl⟩, ⟨Nat.le_refl _, fun _ _ h _ => h⟩⟩
theorem BKeep.appended {w W W' : World} {Bx : Nat} {x : PO} {u v : Value} {l : List UInt8} (h : BSt w Bx x u v l W) (hg : W.grownBy W' v.ownBlock) : BKeep w W W' := by
  have hr : ∀ r, v.ownBlock = some r → w.heap.size + 3 ≤ r ∧ ∃ cs, W.heap[r]? = some (.cells cs 5) := fun r er => by
    rcases h.row.2 with ⟨rfl, _⟩ | ⟨g, cap, cur, rfl, h1, h2, -⟩
    · cases er
    · obtain rfl : g = r := by simpa [Value.ownBlock] using er
      exact ⟨h1, _, h2⟩
  refine ⟨KeepK.grown hg fun r er => ?_, KeepsOthers.of_grownBy hg fun j o ej hj => ?_⟩
  · obtain ⟨h1, cs, h2⟩ := hr r er
    exact ⟨by omega, not_isS h2 (by decide) (by decide)⟩
  · obtain ⟨h1, cs, h2⟩ := hr j ej
    rw [h2] at hj; cases hj; rfl
theorem BKeep.stored {w W : World} {Bx : Nat} {x : PO} {u v : Value} {l : List UInt8} (h : BSt w Bx x u v l W) (y : Value) : BKeep w W (W.setCell ⟨w.heap.size, 0, none⟩ y) :=
  ⟨KeepK.grown (grownBy_setCell' W w.heap.size y) fun r er => (by cases er; exact ⟨Nat.le_refl _, not_isS h.box (by decide) (by decide)⟩), KeepsOthers.setCell _ _ _⟩
theorem u8_of {n : Nat} (h : n < 256) : (n : Int) = ((UInt8.ofNat n).toNat : Int) := by simp; omega
theorem ownU_two {w : World} {base : Nat} {v : Value} {l : List UInt8} {c d : Int} {b b' : UInt8} (h : w.ownsRow base 5 1 v (l.length + 2) (Lib.byteCells l ++ [.int .u8 c, .int .u8 d])) (hc : c = (b.toNat : Int)) (hd : d = (b'.toNat : Int)) : OwnU w base v (l ++ [b, b']) := by
  subst hc hd
  show w.ownsRow base 5 1 v (l ++ [b, b']).length (Lib.byteCells (l ++ [b, b']))
  rw [Lib.byteCells_append, List.length_append]
  exact h
theorem cells_new {V : World} {g : Nat} {cs : Array Value} {t : TypeId} (h : V.heap[g]? = some (.cells cs t)) : ∀ j u, cs.toList[j]? = some u → V.cell? ((⟨g, 0, none⟩ : Addr).add j) = some u := by
  intro j u hj
  rw [Addr.add_lit, Nat.zero_add, (obj_cells h).1, ← Array.getElem?_toList]
  exact hj
def BytesI (w : World) (pre : List PO) (W : World) : Prop :=
  (∃ sv, Boxed W w.heap.size 26 sv ∧ W.ownsRow (w.heap.size + 3) 5 1 sv (bytesE (pre.map (·.1))).length (Lib.byteCells (bytesE (pre.map (·.1)))) ∧ True) ∧ Below w.heap.size w W ∧ w.heap.size + 3 ≤ W.heap.size
theorem bytesI_own (w : World) (B : Nat) (hB : w.heap.size ≤ B) : OwnFrom B (BytesI w) := by
  rintro s X Y row ⟨h1, h2, h3⟩ hg hr
  exact ⟨holdsRow_own (w.heap.size + 3) w.heap.size 26 5 1 (fun pre : List PO => (bytesE (pre.map (·.1))).length) (fun pre => Lib.byteCells (bytesE (pre.map (·.1)))) (fun _ _ => True) s X Y row h1 hg (fun r e => (hr r e).2), h2.grown hg h2.size (fun k e => by have := (hr k e).1; omega), Nat.le_trans h3 hg.size⟩
set_option maxRecDepth 100000 in
set_option maxHeartbeats 4000000 in
theorem bytes_any (g b : Nat) (E : Ats) (w : World) (h : KvS w g b E) :
    Calls Try.prog 23 #[.pointer (some ⟨g, 0, none⟩)] w fun e w' => ∃ sv, e = .returned sv ∧ OwnU w' w.heap.size sv (bytesE E) ∧ Below w.heap.size w w' := by
  obtain ⟨i0, hi, hz0, hz1, hz2⟩ := info_parts infoU
  obtain ⟨f0, f1, f2⟩ := three w (.cells #[.slice none 0 0] 26) (.cells #[.pointer (some ⟨g, 0, none⟩)] 22) (.cells #[.string ⟨([] : Txt).toArray⟩] 9)
  have hb3 : Below w.heap.size w (((w.alloc (.cells #[.slice none 0 0] 26)).alloc (.cells #[.pointer (some ⟨g, 0, none⟩)] 22)).alloc (.cells #[.string ⟨([] : Txt).toArray⟩] 9)) := belowA (belowA (below1 w _) _) _
  have hG := sorted_stops g b E [] w _ h hb3 (w.heap.size + 1) (w.heap.size + 1 + 1) (by omega) (by omega) f1 f2
  rw [scan_all] at hG
  replace h := Lib.hid h
  refine (callsIn_wide (n := 6)).1 ?_
  refine callsIn_of_wp_marks Try.func23 rfl trivial ?_ rfl
  simp only [Try.ntmps23, List.size_toArray, List.length_cons, List.length_nil, Nat.reduceAdd, Nat.reduceSub, Array.replicate_succ, Array.replicate_zero, List.push_toArray, List.append_toArray, List.nil_append, List.cons_append]
  gi_wp2_with (refine ⟨trivial, ?_⟩; gi_at_call 35; refine (callsIn_wide.2 (sorted_any g [] _)).mono ?_; rintro e w1 ⟨rfl, rfl⟩)
  refine wpIn_rangeFunc_ownH rfl (by decide) (gf := 41) (lb := #[.pointer (some ⟨w.heap.size + 1, 0, none⟩), .pointer (some ⟨w.heap.size + 1 + 1, 0, none⟩)]) rfl trivial (enters_of Try.func41 (by kernel_rfl) rfl) hG (fun h k => h.trans k) (keepK_b (by simp only [World.size_alloc]; omega)) (Below.refl _ _) (fun _ => rfl)
    (BytesI w) (fun _ _ _ => False) (bytesI_own w _ (by simp only [World.size_alloc]; omega)) (fun _ _ _ _ _ h _ _ => h) ⟨⟨_, f0, World.ownsRow_nil _ _ _ _, trivial⟩, hb3, by simp only [World.size_alloc]; omega⟩
    (fun x a' W => ∃ Bx, PairAt W Bx x ∧ w.heap.size + 3 ≤ Bx ∧ a' = { tmps := #[.pointer (some ⟨g, 0, none⟩), undef, .slice none 0 0, .pointer (some ⟨w.heap.size, 0, none⟩), .pointer (some ⟨Bx, 0, none⟩), .pointer (some ⟨g, 0, none⟩), .func (.func 41) #[] #[.pointer (some ⟨w.heap.size + 1, 0, none⟩), .pointer (some ⟨w.heap.size + 1 + 1, 0, none⟩)], .agg #[.string ⟨x.1.1.toArray⟩, .string ⟨x.1.2.toArray⟩], undef, undef, undef, undef, undef, undef, undef, undef, undef, undef, undef, undef, undef, undef, undef, undef, undef, undef, undef, undef, undef, undef, undef, undef, undef, undef], defers := [] })
    (fun x a' _ X Y row h hg hr => by obtain ⟨Bx, h1, h2⟩ := h; exact ⟨Bx, h1.kept hg (fun r e => (hr r e).2), h2⟩) ?assign ?body ?done ?stop
  case assign =>
    rintro l pre x W K hI hK
    have hsz := hI.2.1.size
    have hsz3 := hI.2.2
    obtain ⟨sv, hbx, -⟩ := hI.1
    have hlt := hbx.lt
    dsimp only [encP]
    gi_wp2
    refine hK _ _ ((KeepsOthers.alloc _ _).from _) (KeepK.grown (row := none) (World.grownBy_alloc _ _ _) (fun r e => by cases e)) ?_ ⟨W.heap.size, al_newK _ _, hsz3, rfl⟩
    exact bytesI_own w _ (Nat.le_refl _) _ _ _ none hI (World.grownBy_alloc _ _ _) (fun r e => by cases e)
  case body =>
    rintro l pre x a' W hl ⟨r, hr⟩ ⟨⟨sv, hb, hO, -⟩, hBW, hW3⟩ ⟨Bx, hbx, hBx, rfl⟩ hlt
    have hbn : (bytesE (pre.map (·.1))).length ≤ 4163 * 128 := by
      have := bytes_le (po_ok pre)
      rw [List.length_map] at this
      omega
    have hx1 := x.2.2.1
    have hx2 := x.2.2.2
    have hsn := Lib.hid (bytes_snoc pre x)
    clear hG f0 f1 f2 hr
    generalize bytesE (pre.map (·.1)) = bs at hO hbn hsn
    obtain ⟨na, nc, rfl⟩ := owns_shp hO
    have s0 : BSt w Bx x (.slice na bs.length nc) (.slice na bs.length nc) bs W := ⟨hb, hbx, hO⟩
    have hBne : Bx ≠ w.heap.size := by omega
    clear hb hO hbx
    have hsz := hBW.size
    gi_wp2_with fail
    refine wpIn_region_chain [5, 6, 9, 10] true (by kernel_rfl) (by kernel_rfl) rfl (by kernel_rfl) (fun W' => W'.cell? ⟨w.heap.size, 0, none⟩ = some (.slice na bs.length nc) ∧ W'.cell? ⟨Bx, 0, none⟩ = some (.string ⟨x.1.1.toArray⟩) ∧ W'.cell? ⟨Bx, 1, none⟩ = some (.string ⟨x.1.2.toArray⟩)) ?_
    simp only [List.toList_toArray]
    repeat (first
      | (apply FloC.skip; · rfl)
      | (apply FloC.val; · rfl
         · (intro Wx _; rfl)
         · rfl
         · (rintro Wx ⟨c0, c1, c2⟩; go_simp; with_reducible rfl)
         simp only [Act.put, List.setIfInBounds_toArray, List.set_cons_zero, List.set_cons_succ]))
    refine FloC.nil ?_
    refine ChainRun.step s0.cells rfl ?_
    gi_wp2
    have s1 := (s0.made (.cells #[.int .u8 (x.1.1.length : Int)] 5)).drew
    have k1 := (BKeep.made w W (.cells #[.int .u8 (x.1.1.length : Int)] 5)).trans (BKeep.drew w _)
    refine ChainRun.step s1.cells rfl ?_
    refine wpListIn_append_own _ rfl _ _ 26 rfl (w.heap.size + 3) 5 i0 (.int .u8 0) 1 1 Try.underlying26 hi hz0 hz1 hz2 rfl (by decide) _ _ _ rfl s1.row ⟨W.heap.size, 0, none⟩ 1 1 [.int .u8 (x.1.1.length : Int)] rfl rfl (cell_one_new _ _ _) (by simp [Value.oneCell']) (by unfold maxLen; omega) (by omega) (by show _ ≤ (W.alloc _).heap.size; rw [World.size_alloc]; omega) ?_
    intro v2 w2 hO2 hg2 _
    have s2 := s1.appended hg2 (ownU_snoc _ hO2 (u8_of (by omega)))
    have k2 := k1.trans (BKeep.appended s1 hg2)
    refine ChainRun.next rfl ?_
    have hsz2 := k2.k.size
    refine ChainRun.step s2.cells rfl ?_
    refine wpListIn_append_str _ rfl _ _ 26 9 rfl (w.heap.size + 3) 5 i0 Try.underlying26 Try.underlying9 hi hz0 hz1 hz2 _ _ _ rfl s2.row ⟨x.1.1.toArray⟩ rfl (by unfold maxLen; simp [ByteArray.size]; omega) (by simp [ByteArray.size]; omega) (by omega) ?_
    intro v3 w3 hO3 hg3 _
    have s3 := s2.appended hg3 (ownU_str hO3)
    have k3 := k2.trans (BKeep.appended s2 hg3)
    refine ChainRun.next rfl ?_
    obtain ⟨na3, nc3, rfl⟩ := owns_shp s3.row
    have b0 := s3.box.cell
    have b1 := s3.box.frozen
    have b2 := s3.box.lt
    refine ChainRun.step s3.cells rfl ?_
    gi_wp2
    refine ChainRun.last ?_
    have s4 := s3.stored hBne
    have k4 := k3.trans (BKeep.stored s3 (.slice na3 (bs ++ [UInt8.ofNat x.1.1.length] ++ x.1.1).length nc3))
    clear s0 s1 s2 s3 k1 k2 k3 b0 b1 b2 hO2 hg2 hO3 hg3
    have e2 : (bs ++ [UInt8.ofNat x.1.1.length] ++ x.1.1).length = bs.length + (x.1.1.length + 1) := by simp <;> omega
    have hb2 : (bs ++ [UInt8.ofNat x.1.1.length] ++ x.1.1).length ≤ 4163 * 128 + 65 := by omega
    rw [e2] at s4 k4
    have hsz4 := k4.k.size
    have hvd : Hid ((x.1.2.length : Int) / 256 = ((UInt8.ofNat (x.1.2.length / 256)).toNat : Int)) := Lib.hid (by rw [← u8_of (by omega)]; rfl)
    have hvm : Hid ((x.1.2.length : Int) % 256 = ((UInt8.ofNat x.1.2.length).toNat : Int)) := Lib.hid (by simp)
    generalize bs ++ [UInt8.ofNat x.1.1.length] ++ x.1.1 = bs2 at s4 hsn e2 hb2
    gi_wp2_with fail
    refine wpIn_region_chain [10, 11, 14, 15] true (by kernel_rfl) (by kernel_rfl) rfl (by kernel_rfl) (fun W' => W'.cell? ⟨w.heap.size, 0, none⟩ = some (.slice na3 (bs.length + (x.1.1.length + 1)) nc3) ∧ W'.cell? ⟨Bx, 0, none⟩ = some (.string ⟨x.1.1.toArray⟩) ∧ W'.cell? ⟨Bx, 1, none⟩ = some (.string ⟨x.1.2.toArray⟩)) ?_
    simp only [List.toList_toArray]
    repeat (first
      | (apply FloC.skip; · rfl)
      | (apply FloC.val; · rfl
         · (intro Wx _; rfl)
         · rfl
         · (rintro Wx ⟨c0, c1, c2⟩; go_simp; with_reducible rfl)
         simp only [Act.put, List.setIfInBounds_toArray, List.set_cons_zero, List.set_cons_succ]))
    refine FloC.nil ?_
    refine ChainRun.step s4.cells rfl ?_
    gi_wp2
    have s5 := (s4.made (.cells #[.int .u8 ((x.1.2.length : Int) / 256), .int .u8 ((x.1.2.length : Int) % 256)] 5)).drew
    have k5 := k4.trans ((BKeep.made w _ (.cells #[.int .u8 ((x.1.2.length : Int) / 256), .int .u8 ((x.1.2.length : Int) % 256)] 5)).trans (BKeep.drew w _))
    have hsz5 := k5.k.size
    have hnew := cells_new (al_newK (w3.setCell ⟨w.heap.size, 0, none⟩ (.slice na3 (bs.length + (x.1.1.length + 1)) nc3)) (.cells #[.int .u8 ((x.1.2.length : Int) / 256), .int .u8 ((x.1.2.length : Int) % 256)] 5))
    rw [World.size_setCell] at hnew
    refine ChainRun.step s5.cells rfl ?_
    refine wpListIn_append_own _ rfl _ _ 26 rfl (w.heap.size + 3) 5 i0 (.int .u8 0) 1 1 Try.underlying26 hi hz0 hz1 hz2 rfl (by decide) _ _ _ rfl s5.row ⟨w3.heap.size, 0, none⟩ 2 2 [.int .u8 ((x.1.2.length : Int) / 256), .int .u8 ((x.1.2.length : Int) % 256)] rfl rfl hnew (by simp [Value.oneCell']) (by unfold maxLen; omega) (by omega) (by omega) ?_
    intro v6 w6 hO6 hg6 _
    have s6 := s5.appended hg6 (ownU_two hO6 hvd.out hvm.out)
    have k6 := k5.trans (BKeep.appended s5 hg6)
    have hsz6 := k6.k.size
    refine ChainRun.next rfl ?_
    refine ChainRun.step s6.cells rfl ?_
    refine wpListIn_append_str _ rfl _ _ 26 9 rfl (w.heap.size + 3) 5 i0 Try.underlying26 Try.underlying9 hi hz0 hz1 hz2 _ _ _ rfl s6.row ⟨x.1.2.toArray⟩ rfl (by unfold maxLen; simp [ByteArray.size]; omega) (by simp [ByteArray.size]; omega) (by omega) ?_
    intro v7 w7 hO7 hg7 _
    have s7 := s6.appended hg7 (ownU_str hO7)
    have k7 := k6.trans (BKeep.appended s6 hg7)
    refine ChainRun.next rfl ?_
    obtain ⟨na7, nc7, rfl⟩ := owns_shp s7.row
    have b0 := s7.box.cell
    have b1 := s7.box.frozen
    have b2 := s7.box.lt
    refine ChainRun.step s7.cells rfl ?_
    gi_wp2
    refine ChainRun.last ?_
    have s8 := s7.stored hBne
    have k8 := k7.trans (BKeep.stored s7 (.slice na7 (bs2 ++ [UInt8.ofNat (x.1.2.length / 256), UInt8.ofNat x.1.2.length] ++ x.1.2).length nc7))
    clear s4 s5 s6 s7 k4 k5 k6 k7 b0 b1 b2 hO6 hg6 hO7 hg7 hnew
    gi_wp2
    have e3 : (bs2 ++ [UInt8.ofNat (x.1.2.length / 256), UInt8.ofNat x.1.2.length] ++ x.1.2).length = bs.length + (x.1.1.length + 1) + (x.1.2.length + 1 + 1) := by simp; omega
    rw [e3] at s8 k8
    refine ⟨k8.o.from _, k8.k, ⟨_, s8.box, ?_, trivial⟩, hBW.trans (k8.k.below hBW.size), Nat.le_trans hW3 k8.k.size⟩
    rw [hsn.out]
    exact s8.row
  case done =>
    rintro D xs W hD hxs ⟨⟨sv, hb, hO, -⟩, hBW, -⟩ hK
    simp only [World.size_alloc] at hD
    have b0 := hb.cell
    have b1 := hb.frozen
    have b2 := hb.lt
    rw [hxs] at hO
    have hO2 := hO
    obtain ⟨na, nc, rfl⟩ := owns_shp hO
    clear hG f0 f1 f2
    gi_wp2
    refine ⟨by simp, .inl ⟨_, _, rfl, run_takeDeferred hK, ?_⟩⟩
    have hbl := belowK_b (w := w) (Nat.le_refl _) W D _ (.deferred none) (by omega) hK rfl rfl
    exact ⟨_, results_tmp rfl _ _ _, _, rfl, owns_down (ownsRow_putObj hO2 (.deferred none) hK rfl) (by omega), hBW.trans hbl⟩
  case stop =>
    rintro D c pre W hD hpre h hK
    exact h.elim
end Go.Proofs.Ytfeiihmhdcnabaa
