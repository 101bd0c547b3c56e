/-
  Small laws that the walks of this seat use: what stays behind a call that makes memory; endings that are equal. No program. No condition.
-/
import Derived.WalkKit
import Derived.Lib.Hide
import Derived.Lib.ConvBytes
import Derived.Laws.BytesArg
import Derived.ScopeJumps
import Derived.Deep.Quiet
import Derived.WalkMore
namespace Go.Proofs.YtjpdadibeocpfaaDoor
set_option linter.unusedVariables false
set_option linter.unusedSimpArgs false
open Go.RowKit
theorem bcell {W w1 : World} (hb : Below W.heap.size W w1) : (∀ b o, b < W.heap.size → w1.cell? ⟨b, o, none⟩ = W.cell? ⟨b, o, none⟩) ∧ (∀ b o, b < W.heap.size → w1.frozen? ⟨b, o, none⟩ = W.frozen? ⟨b, o, none⟩) :=
  ⟨fun b o h => hb.cell (p := ⟨b, o, none⟩) h, fun b o h => hb.frozen (p := ⟨b, o, none⟩) h⟩
/-- one old block behind a call -/
theorem bat {W w1 : World} (hb : Below W.heap.size W w1) (b : Nat) (h : b < W.heap.size) : (∀ o, w1.cell? ⟨b, o, none⟩ = W.cell? ⟨b, o, none⟩) ∧ (∀ o, w1.frozen? ⟨b, o, none⟩ = W.frozen? ⟨b, o, none⟩) :=
  ⟨fun o => hb.cell (p := ⟨b, o, none⟩) h, fun o => hb.frozen (p := ⟨b, o, none⟩) h⟩
theorem mk_get (s : List UInt8) (k : Nat) (h : k < (ByteArray.mk s.toArray).size) : (ByteArray.mk s.toArray)[k] = s[k]'h := rfl
theorem ret_bool {a b : Bool} (h : a = b) : Ending.returned (.bool a) = .returned (.bool b) := by rw [h]
theorem ret_int {k : IntKind} {a b : Int} (h : a = b) : Ending.returned (.int k a) = .returned (.int k b) := by rw [h]
theorem ret_str {a b : List UInt8} (h : a = b) : Ending.returned (.string ⟨a.toArray⟩) = .returned (.string ⟨b.toArray⟩) := by rw [h]
theorem ret_stri {a b : List UInt8} {n m : Int} (h : a = b) (h' : n = m) : Ending.returned (.tuple #[.string ⟨a.toArray⟩, .int .i64 n]) = .returned (.tuple #[.string ⟨b.toArray⟩, .int .i64 m]) := by rw [h, h']
theorem ret_strb {a b : List UInt8} {n m : Bool} (h : a = b) (h' : n = m) : Ending.returned (.tuple #[.string ⟨a.toArray⟩, .bool n]) = .returned (.tuple #[.string ⟨b.toArray⟩, .bool m]) := by rw [h, h']
theorem ret_any {a b : Value} (h : a = b) : Ending.returned a = .returned b := by rw [h]
theorem below1 (w : World) (o : Obj) : Below w.heap.size w (w.alloc o) := (Below.refl _ _).alloc (Nat.le_refl _) _
theorem belowN' {B : Nat} {a w : World} (h : Below B a w) (n : Nat) : Below B a (w.drewN n) := ⟨h.os, h.tape, h.output, h.size, h.block⟩
theorem below1t {w w' : World} {o : Obj} (hb : Below (w.alloc o).heap.size (w.alloc o) w') : Below w.heap.size w w' := (below1 w o).trans (hb.mono (by simp))
theorem size_drewN (w : World) (n : Nat) : (w.drewN n).heap.size = w.heap.size := rfl
theorem below1tN {w w' : World} {o : Obj} {n : Nat} (hb : Below ((w.alloc o).drewN n).heap.size ((w.alloc o).drewN n) w') : Below w.heap.size w w' := (belowN' (below1 w o) n).trans (hb.mono (by rw [size_drewN]; simp))
theorem belowT {w W w' : World} (h : Below w.heap.size w W) (hb : Below W.heap.size W w') : Below w.heap.size w w' := h.trans (hb.mono h.size)
theorem byte_str (s : ByteArray) : ∃ l : List UInt8, s = ⟨l.toArray⟩ ∧ l = s.data.toList := ⟨s.data.toList, by cases s; simp, rfl⟩
theorem setCell_drewN (w : World) (n : Nat) (a : Addr) (v : Value) : (w.drewN n).setCell a v = (w.setCell a v).drewN n := rfl
theorem alloc_drewN (w : World) (n : Nat) (o : Obj) : (w.drewN n).alloc o = (w.alloc o).drewN n := rfl
theorem lt2 (n : Nat) : n < n + 1 + 1 := by omega
theorem lt3 (n : Nat) : n < n + 1 + 1 + 1 := by omega
theorem lt4 (n : Nat) : n < n + 1 + 1 + 1 + 1 := by omega
theorem lt5 (n : Nat) : n < n + 1 + 1 + 1 + 1 + 1 := by omega
theorem lt6 (n : Nat) : n < n + 1 + 1 + 1 + 1 + 1 + 1 := by omega
theorem lt7 (n : Nat) : n < n + 1 + 1 + 1 + 1 + 1 + 1 + 1 := by omega
theorem lt8 (n : Nat) : n < n + 1 + 1 + 1 + 1 + 1 + 1 + 1 + 1 := by omega
theorem lt9 (n : Nat) : n < n + 1 + 1 + 1 + 1 + 1 + 1 + 1 + 1 + 1 := by omega
theorem lt10 (n : Nat) : n < n + 1 + 1 + 1 + 1 + 1 + 1 + 1 + 1 + 1 + 1 := by omega
theorem lt11 (n : Nat) : n < n + 1 + 1 + 1 + 1 + 1 + 1 + 1 + 1 + 1 + 1 + 1 := by omega
theorem lt12 (n : Nat) : n < n + 1 + 1 + 1 + 1 + 1 + 1 + 1 + 1 + 1 + 1 + 1 + 1 := by omega
theorem drew_drewN (w : World) (n : Nat) : (w.drew).drewN n = w.drewN (n + 1) := by show { w with drawn := w.drawn + 1 + n } = { w with drawn := w.drawn + (n + 1) }; congr 1; omega
theorem drewN_drew (w : World) (n : Nat) : (w.drewN n).drew = w.drewN (n + 1) := rfl
theorem drewN_drewN (w : World) (n m : Nat) : (w.drewN n).drewN m = w.drewN (n + m) := by simp [World.drewN, Nat.add_assoc]
theorem belowN {B : Nat} {a w : World} (h : Below B a w) (n : Nat) : Below B a (w.drewN n) := ⟨h.os, h.tape, h.output, h.size, h.block⟩
theorem ext0 (s : List UInt8) (k : Nat) : (ByteArray.mk s.toArray).extract 0 k = ⟨(s.take k).toArray⟩ := by rw [ByteArray.extract_mk]; simp
theorem extE (s : List UInt8) (k : Nat) : (ByteArray.mk s.toArray).extract k s.length = ⟨(s.drop k).toArray⟩ := by rw [ByteArray.extract_mk, List.take_of_length_le (by simp)]
theorem jump_ret {l : Nat} {J : Act → World → Prop} {Q : Exit → Act → World → Prop} {a : Act} {w : World} : Exit.jump l J Q .ret a w = Q .ret a w := rfl
/-- a scope out of which the run jumps forward to one label, once -/
theorem wp_scope_fwd {P : Program} {a : Act} {w : World} {Q : Exit → Act → World → Prop} {c rest : Code} (l : Nat) (hf : findLabel c l = some rest)
    (h : c.wp P (Exit.jump l (fun a' w' => rest.wp P (Exit.noGoto Q) a' w') Q) a w) : (Code.scope c).wp P Q a w := by
  refine wp_scope_jumps l (fun a' w' => rest.wp P (Exit.noGoto Q) a' w') (fun _ _ => 0) hf h (fun a' w' hr => ?_)
  refine wp_mono hr (fun e a'' w'' he => ?_)
  cases e <;> first | exact he | exact he.elim
/-- three cells of a block, behind a call -/
theorem keepJ {w W w' : World} {B : Nat} {x y z : Value} (hS : W.cell? ⟨B, 0, none⟩ = some x ∧ W.cell? ⟨B, 1, none⟩ = some y ∧ W.cell? ⟨B, 2, none⟩ = some z ∧ Below w.heap.size w W ∧ B < W.heap.size) (hb : Below W.heap.size W w') :
    w'.cell? ⟨B, 0, none⟩ = some x ∧ w'.cell? ⟨B, 1, none⟩ = some y ∧ w'.cell? ⟨B, 2, none⟩ = some z ∧ Below w.heap.size w w' ∧ B < w'.heap.size := by
  obtain ⟨h1, h2, h3, h4, h5⟩ := hS
  obtain ⟨hc, -⟩ := bat hb B h5
  exact ⟨(hc 0).trans h1, (hc 1).trans h2, (hc 2).trans h3, belowT h4 hb, Nat.lt_of_lt_of_le h5 hb.size⟩
theorem keepB {w W : World} {B : Nat} {x y z : Value} (hS : W.cell? ⟨B, 0, none⟩ = some x ∧ W.cell? ⟨B, 1, none⟩ = some y ∧ W.cell? ⟨B, 2, none⟩ = some z ∧ Below w.heap.size w W ∧ B < W.heap.size) : Below w.heap.size w W := hS.2.2.2.1
theorem keep0 (w : World) {x y z : Value} (t : TypeId) : (w.alloc (.cells #[x, y, z] t)).drew.cell? ⟨w.heap.size, 0, none⟩ = some x ∧ (w.alloc (.cells #[x, y, z] t)).drew.cell? ⟨w.heap.size, 1, none⟩ = some y ∧ (w.alloc (.cells #[x, y, z] t)).drew.cell? ⟨w.heap.size, 2, none⟩ = some z ∧ Below w.heap.size w (w.alloc (.cells #[x, y, z] t)).drew ∧ w.heap.size < (w.alloc (.cells #[x, y, z] t)).drew.heap.size :=
  ⟨by simp, by simp, by simp, (below1 w _).drew, by simp⟩
theorem keepN (w : World) {x y z : Value} (t : TypeId) : (w.alloc (.cells #[x, y, z] t)).cell? ⟨w.heap.size, 0, none⟩ = some x ∧ (w.alloc (.cells #[x, y, z] t)).cell? ⟨w.heap.size, 1, none⟩ = some y ∧ (w.alloc (.cells #[x, y, z] t)).cell? ⟨w.heap.size, 2, none⟩ = some z ∧ Below w.heap.size w (w.alloc (.cells #[x, y, z] t)) ∧ w.heap.size < (w.alloc (.cells #[x, y, z] t)).heap.size :=
  ⟨by simp, by simp, by simp, below1 w _, by simp⟩
theorem keepD {w W : World} {B : Nat} {x y z : Value} (hS : W.cell? ⟨B, 0, none⟩ = some x ∧ W.cell? ⟨B, 1, none⟩ = some y ∧ W.cell? ⟨B, 2, none⟩ = some z ∧ Below w.heap.size w W ∧ B < W.heap.size) :
    W.drew.cell? ⟨B, 0, none⟩ = some x ∧ W.drew.cell? ⟨B, 1, none⟩ = some y ∧ W.drew.cell? ⟨B, 2, none⟩ = some z ∧ Below w.heap.size w W.drew ∧ B < W.drew.heap.size := by
  obtain ⟨h1, h2, h3, h4, h5⟩ := hS
  exact ⟨h1, h2, h3, h4.drew, h5⟩
/-- a row of bytes from a block's head on, which may be written -/
def U8Row (w : World) (B : Nat) (xs : List UInt8) : Prop := (∀ j (h : j < xs.length), w.cell? ⟨B, j, none⟩ = some (.int .u8 (xs[j].toNat : Int))) ∧ ∀ j, j < xs.length → w.frozen? ⟨B, j, none⟩ = false
theorem U8Row.store {w : World} {B : Nat} {xs : List UInt8} (h : U8Row w B xs) (k : Nat) (hk : k < xs.length) (c : UInt8) : U8Row (w.setCell ⟨B, k, none⟩ (.int .u8 (c.toNat : Int))) B (xs.set k c) := by
  refine ⟨fun j hj => ?_, fun j hj => ?_⟩
  · by_cases e : k = j
    · subst e
      rw [World.cell?_setCell_same' _ _ _ (by rw [h.1 k hk]; rfl)]
      simp
    · rw [World.cell?_setCell_other (a := ⟨B, k, none⟩) (b := ⟨B, j, none⟩) (h := by simp [e]), h.1 j (by simpa using hj)]
      simp [List.getElem_set, e]
  · rw [World.frozen?_setCell]
    exact h.2 j (by simpa using hj)
theorem U8Row.back {P : Program} {w : World} {B : Nat} {xs : List UInt8} (h : U8Row w B xs) (src dst e : TypeId) (hs : P.underlying src = some (.slice e)) (he : P.underlying e = some (.int .u8)) (hd : P.underlying dst = some .string) (cap : Nat) :
    (convert src dst (.slice (some ⟨B, 0, none⟩) xs.length cap)).run P w = .ok (.string ⟨xs.toArray⟩) w := by
  rw [run_convert_bytes_arg w src e hs he B 0 xs.length cap (xs.map fun c => (c.toNat : Int)) (by simp) (fun i hi => ?_) dst hd]
  · congr 2
    simp [strOfNums, Function.comp_def]
  · rw [Nat.zero_add, h.1 i hi]
    simp [List.getD, hi]
theorem U8Row.made (w : World) (e : TypeId) (s : List UInt8) : U8Row (Lib.bytesWorld w e ⟨s.toArray⟩) w.heap.size s := by
  refine ⟨fun j hj => ?_, fun j hj => ?_⟩
  · rw [Lib.bytesWorld_cell _ _ _ _ (by exact hj)]
    simp [List.getD, hj]
  · have := Lib.bytesWorld_at_new w e ⟨s.toArray⟩
    simp only [World.frozen?, this]
    simp [Lib.bytesCells]
    omega
theorem below_bytes (w : World) (e : TypeId) (s : ByteArray) : Below w.heap.size w (Lib.bytesWorld w e s) :=
  ⟨rfl, rfl, rfl, by rw [Lib.bytesWorld_size]; omega, fun k hk => Lib.bytesWorld_at_old w e s k hk⟩
theorem belowA {w w' : World} (h : Below w.heap.size w w') (o : Obj) : Below w.heap.size w (w'.alloc o) := h.alloc h.size o
/-- the world with one block more, and some draws -/
def One (w w' : World) : Prop := ∃ (o : Obj) (n : Nat), w' = (w.alloc o).drewN n
theorem One.below {w w' : World} (h : One w w') : Below w.heap.size w w' := by
  obtain ⟨o, n, rfl⟩ := h
  exact belowN (below1 w o) n
theorem eq_alloc {w w' : World} {n : Nat} (o : Obj) (hh : w'.heap = (w.alloc o).heap) (ht : w'.tape = w.tape) (hd : w'.drawn = w.drawn + n) (hos : w'.os = w.os) (hout : w'.output = w.output) : w' = (w.alloc o).drewN n := by
  cases w'
  simp only at hh ht hd hos hout
  subst hh ht hd hos hout
  rfl
theorem One.store {w w' : World} (h : One w w') (k : Nat) (v : Value) : One w (w'.setCell ⟨w.heap.size, k, none⟩ v) := by
  obtain ⟨o, n, rfl⟩ := h
  refine ⟨((((w.alloc o).setCell ⟨w.heap.size, k, none⟩ v).heap[w.heap.size]?).getD default), n, ?_⟩
  rw [setCell_drewN]
  congr 1
  have hs : ((w.alloc o).setCell ⟨w.heap.size, k, none⟩ v).heap.size = w.heap.size + 1 := by simp [World.setCell]
  have hh : ((w.alloc o).setCell ⟨w.heap.size, k, none⟩ v).heap = (w.alloc ((((w.alloc o).setCell ⟨w.heap.size, k, none⟩ v).heap[w.heap.size]?).getD default)).heap := by
    apply Array.ext_getElem?
    intro i
    rcases Nat.lt_trichotomy i w.heap.size with hi | rfl | hi
    · rw [Below.heap_setCell _ _ _ _ (by simp; omega), Below.heap_alloc _ _ _ hi, Below.heap_alloc _ _ _ hi]
    · obtain ⟨x, hx⟩ : ∃ x, ((w.alloc o).setCell ⟨w.heap.size, k, none⟩ v).heap[w.heap.size]? = some x := ⟨_, Array.getElem?_eq_getElem (by rw [hs]; omega)⟩
      rw [hx]
      show _ = (w.heap.push _)[w.heap.size]?
      simp
    · rw [Array.getElem?_eq_none (by rw [hs]; omega), Array.getElem?_eq_none (by simp; omega)]
  exact eq_alloc (n := 0) _ hh rfl rfl rfl rfl
theorem One.made (w : World) (e : TypeId) (s : ByteArray) : One w (Lib.bytesWorld w e s) := by
  refine ⟨((Lib.bytesWorld w e s).heap[w.heap.size]?).getD default, 1, ?_⟩
  have hh : (Lib.bytesWorld w e s).heap = (w.alloc (((Lib.bytesWorld w e s).heap[w.heap.size]?).getD default)).heap := by
    apply Array.ext_getElem?
    intro i
    rcases Nat.lt_trichotomy i w.heap.size with hi | rfl | hi
    · rw [Lib.bytesWorld_at_old _ _ _ _ hi, Below.heap_alloc _ _ _ hi]
    · rw [Lib.bytesWorld_at_new]
      show _ = (w.heap.push _)[w.heap.size]?
      simp
    · rw [Array.getElem?_eq_none (by rw [Lib.bytesWorld_size]; omega), Array.getElem?_eq_none (by simp; omega)]
  exact eq_alloc _ hh rfl rfl rfl rfl
theorem results_cell {P : Program} {fn : Func} {tmps : Array Value} {w : World} {a : Tmp} {t : TypeId} {ad : Addr} {v : Value} (h : fn.results = #[.cell a t]) (hp : tmps.getD a undef = .pointer (some ad)) (hl : (loadVar t ad).run P w = .ok v w) : (results fn tmps).run P w = .ok v w := by
  unfold results
  rw [h]
  have e : (asAddr (tmps.getD a undef)).run P w = .ok ad w := by rw [hp]; rfl
  rw [Array.getD_eq_getD_getElem?] at e
  simp [Sem.run_bind, Sem.run_pure, Result.andThen_ok, hl, e]
theorem obj_cells {W : World} {b : Nat} {cs : Array Value} {t : TypeId} (h : W.heap[b]? = some (.cells cs t)) : (∀ i, W.cell? ⟨b, i, none⟩ = cs[i]?) ∧ (∀ i, W.frozen? ⟨b, i, none⟩ = false) ∧ b < W.heap.size :=
  ⟨fun i => by simp [World.cell?, h], fun i => by simp [World.frozen?, h], (Array.getElem?_eq_some_iff.1 h).1⟩
theorem obj_set {W : World} {b i : Nat} {cs : Array Value} {t : TypeId} (h : W.heap[b]? = some (.cells cs t)) (v : Value) : (W.setCell ⟨b, i, none⟩ v).heap[b]? = some (.cells (cs.setIfInBounds i v) t) := by
  simp [World.setCell, Array.getElem?_modify, h]
theorem obj_alloc {W : World} {b : Nat} {o o' : Obj} (h : W.heap[b]? = some o) : (W.alloc o').heap[b]? = some o := by
  rw [Below.heap_alloc _ _ _ (by have := (Array.getElem?_eq_some_iff.1 h).1; omega), h]
end Go.Proofs.YtjpdadibeocpfaaDoor
