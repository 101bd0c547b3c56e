/-
  Conditions: their names and types, as lists of bytes; the condition of a name. Plain lists, no program. No condition.
-/
import Derived.Test.YtcfkegfddiglcaaDoorProg
import Derived.Test.YtcfkegfddiglcaaDoorBase
import Derived.LoopTactic
import Derived.Outline
import Derived.Laws.Tables
import Derived.Deep.DeepCutAuto
import Derived.Great.Walk
import Derived.Deep.WholeRow
namespace Go.Proofs.YtcfkegfddiglcaaDoor
set_option linter.unusedVariables false
set_option linter.unusedSimpArgs false
def nameL (c : Int) : List UInt8 :=
  if c = 1 then [98, 97, 100, 45, 114, 101, 113, 117, 101, 115, 116] else
  if c = 2 then [99, 111, 110, 102, 108, 105, 99, 116] else
  if c = 3 then [102, 111, 114, 98, 105, 100, 100, 101, 110] else
  if c = 4 then [105, 116, 101, 109, 45, 110, 111, 116, 45, 102, 111, 117, 110, 100] else
  if c = 5 then [106, 105, 100, 45, 109, 97, 108, 102, 111, 114, 109, 101, 100] else
  if c = 6 then [110, 111, 116, 45, 97, 108, 108, 111, 119, 101, 100] else
  if c = 7 then [110, 111, 116, 45, 97, 117, 116, 104, 111, 114, 105, 122, 101, 100] else
  if c = 8 then [114, 101, 115, 111, 117, 114, 99, 101, 45, 99, 111, 110, 115, 116, 114, 97, 105, 110, 116] else
  if c = 9 then [115, 101, 114, 118, 105, 99, 101, 45, 117, 110, 97, 118, 97, 105, 108, 97, 98, 108, 101] else
  if c = 10 then [117, 110, 101, 120, 112, 101, 99, 116, 101, 100, 45, 114, 101, 113, 117, 101, 115, 116] else []
def typeL (c : Int) : List UInt8 :=
  if c = 1 then [109, 111, 100, 105, 102, 121] else
  if c = 2 then [99, 97, 110, 99, 101, 108] else
  if c = 3 then [97, 117, 116, 104] else
  if c = 4 then [99, 97, 110, 99, 101, 108] else
  if c = 5 then [109, 111, 100, 105, 102, 121] else
  if c = 6 then [99, 97, 110, 99, 101, 108] else
  if c = 7 then [97, 117, 116, 104] else
  if c = 8 then [119, 97, 105, 116] else
  if c = 9 then [99, 97, 110, 99, 101, 108] else
  if c = 10 then [119, 97, 105, 116] else []
def knownB (c : Int) : Bool := decide (1 ≤ c ∧ c ≤ 10)
/-- the condition of a name; 0: none -/
def condL (s : List UInt8) : Int :=
  if s = [98, 97, 100, 45, 114, 101, 113, 117, 101, 115, 116] then 1 else
  if s = [99, 111, 110, 102, 108, 105, 99, 116] then 2 else
  if s = [102, 111, 114, 98, 105, 100, 100, 101, 110] then 3 else
  if s = [105, 116, 101, 109, 45, 110, 111, 116, 45, 102, 111, 117, 110, 100] then 4 else
  if s = [106, 105, 100, 45, 109, 97, 108, 102, 111, 114, 109, 101, 100] then 5 else
  if s = [110, 111, 116, 45, 97, 108, 108, 111, 119, 101, 100] then 6 else
  if s = [110, 111, 116, 45, 97, 117, 116, 104, 111, 114, 105, 122, 101, 100] then 7 else
  if s = [114, 101, 115, 111, 117, 114, 99, 101, 45, 99, 111, 110, 115, 116, 114, 97, 105, 110, 116] then 8 else
  if s = [115, 101, 114, 118, 105, 99, 101, 45, 117, 110, 97, 118, 97, 105, 108, 97, 98, 108, 101] then 9 else
  if s = [117, 110, 101, 120, 112, 101, 99, 116, 101, 100, 45, 114, 101, 113, 117, 101, 115, 116] then 10 else 0
theorem known_cases {c : Int} (h : knownB c = true) : c = 1 ∨ c = 2 ∨ c = 3 ∨ c = 4 ∨ c = 5 ∨ c = 6 ∨ c = 7 ∨ c = 8 ∨ c = 9 ∨ c = 10 := by
  simp only [knownB, decide_eq_true_eq] at h
  omega
theorem nameL_un {c : Int} (h : knownB c = false) : nameL c = [] := by
  simp only [knownB, decide_eq_false_iff_not] at h
  unfold nameL
  iterate 10 rw [if_neg (by omega)]
theorem typeL_un {c : Int} (h : knownB c = false) : typeL c = [] := by
  simp only [knownB, decide_eq_false_iff_not] at h
  unfold typeL
  iterate 10 rw [if_neg (by omega)]
end Go.Proofs.YtcfkegfddiglcaaDoor
/-
  The table of conditions: what 'entries' hands back. No condition.
-/
namespace Go.Proofs.YtcfkegfddiglcaaDoor
set_option linter.unusedVariables false
set_option linter.unusedSimpArgs false
open Go.RowKit
def cellsE (b1 b2 b3 b4 b5 b6 b7 b8 b9 b10 b11 b12 b13 b14 : ByteArray) : Array Value := #[.string ⟨#[]⟩, .string ⟨#[]⟩, .string b1, .string b11, .string b2, .string b12, .string b3, .string b13, .string b4, .string b12, .string b5, .string b11, .string b6, .string b12, .string b7, .string b13, .string b8, .string b14, .string b9, .string b12, .string b10, .string b14]
theorem buildE (b1 b2 b3 b4 b5 b6 b7 b8 b9 b10 b11 b12 b13 b14 : ByteArray) (w : World) : (Instr.build 79 #[(1, .agg #[.string b1, .string b11]), (2, .agg #[.string b2, .string b12]), (3, .agg #[.string b3, .string b13]), (4, .agg #[.string b4, .string b12]), (5, .agg #[.string b5, .string b11]), (6, .agg #[.string b6, .string b12]), (7, .agg #[.string b7, .string b13]), (8, .agg #[.string b8, .string b14]), (9, .agg #[.string b9, .string b12]), (10, .agg #[.string b10, .string b14])]).run Tryd.prog w = .ok (.agg (cellsE b1 b2 b3 b4 b5 b6 b7 b8 b9 b10 b11 b12 b13 b14)) w :=
  run_build w _ _ _ (by kernel_rfl)
theorem infoE : (Tryd.prog.info? 79).map (·.size) = some 22 := by kernel_rfl
theorem storeE (b1 b2 b3 b4 b5 b6 b7 b8 b9 b10 b11 b12 b13 b14 : ByteArray) (w : World) : (Instr.storeAt 79 (.pointer (some ⟨w.heap.size, 0, none⟩)) (.agg (cellsE b1 b2 b3 b4 b5 b6 b7 b8 b9 b10 b11 b12 b13 b14))).run Tryd.prog (w.alloc (.cells #[.string ⟨#[]⟩, .string ⟨#[]⟩, .string ⟨#[]⟩, .string ⟨#[]⟩, .string ⟨#[]⟩, .string ⟨#[]⟩, .string ⟨#[]⟩, .string ⟨#[]⟩, .string ⟨#[]⟩, .string ⟨#[]⟩, .string ⟨#[]⟩, .string ⟨#[]⟩, .string ⟨#[]⟩, .string ⟨#[]⟩, .string ⟨#[]⟩, .string ⟨#[]⟩, .string ⟨#[]⟩, .string ⟨#[]⟩, .string ⟨#[]⟩, .string ⟨#[]⟩, .string ⟨#[]⟩, .string ⟨#[]⟩] 79)) = .ok () (w.alloc (.cells (cellsE b1 b2 b3 b4 b5 b6 b7 b8 b9 b10 b11 b12 b13 b14) 79)) :=
  run_storeAt_new w _ _ _ infoE rfl (by kernel_rfl)
theorem loadE (b1 b2 b3 b4 b5 b6 b7 b8 b9 b10 b11 b12 b13 b14 : ByteArray) (w : World) : (loadVar 79 ⟨w.heap.size, 0, none⟩).run Tryd.prog (w.alloc (.cells (cellsE b1 b2 b3 b4 b5 b6 b7 b8 b9 b10 b11 b12 b13 b14) 79)) = .ok (.agg (cellsE b1 b2 b3 b4 b5 b6 b7 b8 b9 b10 b11 b12 b13 b14)) (w.alloc (.cells (cellsE b1 b2 b3 b4 b5 b6 b7 b8 b9 b10 b11 b12 b13 b14) 79)) :=
  run_loadVar_new w _ _ 11 78 Tryd.underlying79 infoE
theorem wpList_build {P : Program} {ops : Array Oper} {rest : List Oper} {o : Oper} {a : Act} {w : World} {Q : Exit → Act → World → Prop} (hg : o.guard = none) (dst : Option Tmp) (hdst : o.dst = dst) {t : TypeId} {parts : Array (Nat × Operand)} (hop : o.op = .build t parts)
    (cells : Array Value) (hb : P.built t (parts.map fun (i, x) => (i, a.eval x)).toList = some cells) (h : wpList P ops Q rest (a.put dst (.agg cells)) w) : wpList P ops Q (o :: rest) a w := by
  refine Go.Great.wpList_runTo hg dst hdst (.agg cells) w ?_ h
  unfold execOp
  simp only [hop, Sem.run_bind, run_build w t _ cells hb, Result.andThen_ok, Sem.run_pure]
theorem wpList_storeE {P : Program} {ops : Array Oper} {rest : List Oper} {o : Oper} {a : Act} {w w' : World} {Q : Exit → Act → World → Prop} (hg : o.guard = none) (hdst : o.dst = none) {t : TypeId} {p x : Operand} (hop : o.op = .store t p x) {v u : Value} (hp : a.eval p = v) (hx : a.eval x = u)
    (hs : (Instr.storeAt t v u).run P w = .ok () w') (h : wpList P ops Q rest a w') : wpList P ops Q (o :: rest) a w := by
  refine wpList_plain hg fun K hK => ?_
  unfold Oper.wp execOp
  simp only [hop, hp, hx, Sem.run_bind, hs, Result.andThen_ok, Sem.run_pure, hdst]
  rw [Oper.upon_skip]
  exact hK _ _ (by rw [hdst]; exact h)
def entriesC : Array Value := cellsE ⟨#[98, 97, 100, 45, 114, 101, 113, 117, 101, 115, 116]⟩ ⟨#[99, 111, 110, 102, 108, 105, 99, 116]⟩ ⟨#[102, 111, 114, 98, 105, 100, 100, 101, 110]⟩ ⟨#[105, 116, 101, 109, 45, 110, 111, 116, 45, 102, 111, 117, 110, 100]⟩ ⟨#[106, 105, 100, 45, 109, 97, 108, 102, 111, 114, 109, 101, 100]⟩ ⟨#[110, 111, 116, 45, 97, 108, 108, 111, 119, 101, 100]⟩ ⟨#[110, 111, 116, 45, 97, 117, 116, 104, 111, 114, 105, 122, 101, 100]⟩ ⟨#[114, 101, 115, 111, 117, 114, 99, 101, 45, 99, 111, 110, 115, 116, 114, 97, 105, 110, 116]⟩ ⟨#[115, 101, 114, 118, 105, 99, 101, 45, 117, 110, 97, 118, 97, 105, 108, 97, 98, 108, 101]⟩ ⟨#[117, 110, 101, 120, 112, 101, 99, 116, 101, 100, 45, 114, 101, 113, 117, 101, 115, 116]⟩ ⟨#[109, 111, 100, 105, 102, 121]⟩ ⟨#[99, 97, 110, 99, 101, 108]⟩ ⟨#[97, 117, 116, 104]⟩ ⟨#[119, 97, 105, 116]⟩
theorem entries_any (w : World) :
    Calls Tryd.prog 47 #[] w fun e w' => e = .returned (.agg entriesC) ∧ ∃ o n, w' = (w.alloc o).drewN n := by
  unfold entriesC
  go_enter Tryd.func47, Tryd.ntmps47
  generalize hb1 : ByteArray.mk #[98, 97, 100, 45, 114, 101, 113, 117, 101, 115, 116] = b1
  generalize hb2 : ByteArray.mk #[99, 111, 110, 102, 108, 105, 99, 116] = b2
  generalize hb3 : ByteArray.mk #[102, 111, 114, 98, 105, 100, 100, 101, 110] = b3
  generalize hb4 : ByteArray.mk #[105, 116, 101, 109, 45, 110, 111, 116, 45, 102, 111, 117, 110, 100] = b4
  generalize hb5 : ByteArray.mk #[106, 105, 100, 45, 109, 97, 108, 102, 111, 114, 109, 101, 100] = b5
  generalize hb6 : ByteArray.mk #[110, 111, 116, 45, 97, 108, 108, 111, 119, 101, 100] = b6
  generalize hb7 : ByteArray.mk #[110, 111, 116, 45, 97, 117, 116, 104, 111, 114, 105, 122, 101, 100] = b7
  generalize hb8 : ByteArray.mk #[114, 101, 115, 111, 117, 114, 99, 101, 45, 99, 111, 110, 115, 116, 114, 97, 105, 110, 116] = b8
  generalize hb9 : ByteArray.mk #[115, 101, 114, 118, 105, 99, 101, 45, 117, 110, 97, 118, 97, 105, 108, 97, 98, 108, 101] = b9
  generalize hb10 : ByteArray.mk #[117, 110, 101, 120, 112, 101, 99, 116, 101, 100, 45, 114, 101, 113, 117, 101, 115, 116] = b10
  generalize hb11 : ByteArray.mk #[109, 111, 100, 105, 102, 121] = b11
  generalize hb12 : ByteArray.mk #[99, 97, 110, 99, 101, 108] = b12
  generalize hb13 : ByteArray.mk #[97, 117, 116, 104] = b13
  generalize hb14 : ByteArray.mk #[119, 97, 105, 116] = b14
  go_upto_region 1 with (fail)
  refine wp_region_lit ?_
  refine wpList_build rfl (some 1) rfl rfl #[.string b1, .string b11] (by kernel_rfl) ?_
  simp only [Act.put, List.setIfInBounds_toArray, List.set_cons_zero, List.set_cons_succ]
  refine wpList_build rfl (some 2) rfl rfl #[.string b2, .string b12] (by kernel_rfl) ?_
  simp only [Act.put, List.setIfInBounds_toArray, List.set_cons_zero, List.set_cons_succ]
  refine wpList_build rfl (some 3) rfl rfl #[.string b3, .string b13] (by kernel_rfl) ?_
  simp only [Act.put, List.setIfInBounds_toArray, List.set_cons_zero, List.set_cons_succ]
  refine wpList_build rfl (some 4) rfl rfl #[.string b4, .string b12] (by kernel_rfl) ?_
  simp only [Act.put, List.setIfInBounds_toArray, List.set_cons_zero, List.set_cons_succ]
  refine wpList_build rfl (some 5) rfl rfl #[.string b5, .string b11] (by kernel_rfl) ?_
  simp only [Act.put, List.setIfInBounds_toArray, List.set_cons_zero, List.set_cons_succ]
  refine wpList_build rfl (some 6) rfl rfl #[.string b6, .string b12] (by kernel_rfl) ?_
  simp only [Act.put, List.setIfInBounds_toArray, List.set_cons_zero, List.set_cons_succ]
  refine wpList_build rfl (some 7) rfl rfl #[.string b7, .string b13] (by kernel_rfl) ?_
  simp only [Act.put, List.setIfInBounds_toArray, List.set_cons_zero, List.set_cons_succ]
  refine wpList_build rfl (some 8) rfl rfl #[.string b8, .string b14] (by kernel_rfl) ?_
  simp only [Act.put, List.setIfInBounds_toArray, List.set_cons_zero, List.set_cons_succ]
  refine wpList_build rfl (some 9) rfl rfl #[.string b9, .string b12] (by kernel_rfl) ?_
  simp only [Act.put, List.setIfInBounds_toArray, List.set_cons_zero, List.set_cons_succ]
  refine wpList_build rfl (some 10) rfl rfl #[.string b10, .string b14] (by kernel_rfl) ?_
  simp only [Act.put, List.setIfInBounds_toArray, List.set_cons_zero, List.set_cons_succ]
  refine wpList_build rfl (some 11) rfl rfl (cellsE b1 b2 b3 b4 b5 b6 b7 b8 b9 b10 b11 b12 b13 b14) (by kernel_rfl) ?_
  simp only [Act.put, List.setIfInBounds_toArray, List.set_cons_zero, List.set_cons_succ]
  refine wpList_storeE rfl rfl rfl rfl rfl (storeE b1 b2 b3 b4 b5 b6 b7 b8 b9 b10 b11 b12 b13 b14 w) ?_
  refine wpList_nil ?_
  go_wp2
  exact bodyPost_ret (v := .agg (cellsE b1 b2 b3 b4 b5 b6 b7 b8 b9 b10 b11 b12 b13 b14)) (results_cell Tryd.results47 rfl (loadE b1 b2 b3 b4 b5 b6 b7 b8 b9 b10 b11 b12 b13 b14 w)) rfl ⟨rfl, _, 0, rfl⟩
end Go.Proofs.YtcfkegfddiglcaaDoor
/-
  What the functions on conditions compute: names and types. No condition but that the number is one of its kind.
-/
namespace Go.Proofs.YtcfkegfddiglcaaDoor
set_option linter.unusedVariables false
set_option linter.unusedSimpArgs false
open Go.RowKit
theorem known_any (c : Int) (w : World) :
    Calls Tryd.prog 48 #[.int .i64 c] w fun e w' => e = .returned (.bool (knownB c)) ∧ w = w' := by
  by_cases h1 : 0 < c
  · by_cases h2 : c ≤ 10
    · have e : knownB c = true := by simp [knownB]; omega
      rw [e]
      clear e
      go_enter Tryd.func48, Tryd.ntmps48
      go_wp2
      go_ret
      exact ⟨rfl, rfl⟩
    · have e : knownB c = false := by simp [knownB]; omega
      rw [e]
      clear e
      go_enter Tryd.func48, Tryd.ntmps48
      go_wp2
      go_ret
      exact ⟨rfl, rfl⟩
  · have e : knownB c = false := by simp [knownB]; omega
    rw [e]
    clear e
    go_enter Tryd.func48, Tryd.ntmps48
    go_wp2
    go_ret
    exact ⟨rfl, rfl⟩
theorem idx1 (w : World) : (Instr.index 79 (.agg entriesC) (.int .i64 1)).run Tryd.prog w = .ok (.agg #[.string ⟨#[98, 97, 100, 45, 114, 101, 113, 117, 101, 115, 116]⟩, .string ⟨#[109, 111, 100, 105, 102, 121]⟩]) w := by kernel_rfl
theorem idx2 (w : World) : (Instr.index 79 (.agg entriesC) (.int .i64 2)).run Tryd.prog w = .ok (.agg #[.string ⟨#[99, 111, 110, 102, 108, 105, 99, 116]⟩, .string ⟨#[99, 97, 110, 99, 101, 108]⟩]) w := by kernel_rfl
theorem idx3 (w : World) : (Instr.index 79 (.agg entriesC) (.int .i64 3)).run Tryd.prog w = .ok (.agg #[.string ⟨#[102, 111, 114, 98, 105, 100, 100, 101, 110]⟩, .string ⟨#[97, 117, 116, 104]⟩]) w := by kernel_rfl
theorem idx4 (w : World) : (Instr.index 79 (.agg entriesC) (.int .i64 4)).run Tryd.prog w = .ok (.agg #[.string ⟨#[105, 116, 101, 109, 45, 110, 111, 116, 45, 102, 111, 117, 110, 100]⟩, .string ⟨#[99, 97, 110, 99, 101, 108]⟩]) w := by kernel_rfl
theorem idx5 (w : World) : (Instr.index 79 (.agg entriesC) (.int .i64 5)).run Tryd.prog w = .ok (.agg #[.string ⟨#[106, 105, 100, 45, 109, 97, 108, 102, 111, 114, 109, 101, 100]⟩, .string ⟨#[109, 111, 100, 105, 102, 121]⟩]) w := by kernel_rfl
theorem idx6 (w : World) : (Instr.index 79 (.agg entriesC) (.int .i64 6)).run Tryd.prog w = .ok (.agg #[.string ⟨#[110, 111, 116, 45, 97, 108, 108, 111, 119, 101, 100]⟩, .string ⟨#[99, 97, 110, 99, 101, 108]⟩]) w := by kernel_rfl
theorem idx7 (w : World) : (Instr.index 79 (.agg entriesC) (.int .i64 7)).run Tryd.prog w = .ok (.agg #[.string ⟨#[110, 111, 116, 45, 97, 117, 116, 104, 111, 114, 105, 122, 101, 100]⟩, .string ⟨#[97, 117, 116, 104]⟩]) w := by kernel_rfl
theorem idx8 (w : World) : (Instr.index 79 (.agg entriesC) (.int .i64 8)).run Tryd.prog w = .ok (.agg #[.string ⟨#[114, 101, 115, 111, 117, 114, 99, 101, 45, 99, 111, 110, 115, 116, 114, 97, 105, 110, 116]⟩, .string ⟨#[119, 97, 105, 116]⟩]) w := by kernel_rfl
theorem idx9 (w : World) : (Instr.index 79 (.agg entriesC) (.int .i64 9)).run Tryd.prog w = .ok (.agg #[.string ⟨#[115, 101, 114, 118, 105, 99, 101, 45, 117, 110, 97, 118, 97, 105, 108, 97, 98, 108, 101]⟩, .string ⟨#[99, 97, 110, 99, 101, 108]⟩]) w := by kernel_rfl
theorem idx10 (w : World) : (Instr.index 79 (.agg entriesC) (.int .i64 10)).run Tryd.prog w = .ok (.agg #[.string ⟨#[117, 110, 101, 120, 112, 101, 99, 116, 101, 100, 45, 114, 101, 113, 117, 101, 115, 116]⟩, .string ⟨#[119, 97, 105, 116]⟩]) w := by kernel_rfl
theorem fld0 (x y : Value) (w : World) : (Instr.field 78 (.agg #[x, y]) 0).run Tryd.prog w = .ok x w := by kernel_rfl
theorem fld1 (x y : Value) (w : World) : (Instr.field 78 (.agg #[x, y]) 1).run Tryd.prog w = .ok y w := by kernel_rfl
theorem name_any (c : Int) (w : World) :
    Calls Tryd.prog 35 #[.int .i64 c] w fun e w' => e = .returned (.string ⟨(nameL c).toArray⟩) ∧ Below w.heap.size w w' := by
  cases hk : knownB c
  · rw [nameL_un hk]
    go_enter Tryd.func35, Tryd.ntmps35
    go_wp2_with (go_at_call 48; refine (known_any _ _).mono ?_; rintro e w1 ⟨rfl, rfl⟩; rw [hk])
    go_ret
    exact ⟨rfl, Below.refl _ _⟩
  · have f0 := fld0
    obtain rfl | rfl | rfl | rfl | rfl | rfl | rfl | rfl | rfl | rfl := known_cases hk
    all_goals have i1 := idx1
    all_goals have i2 := idx2
    all_goals have i3 := idx3
    all_goals have i4 := idx4
    all_goals have i5 := idx5
    all_goals have i6 := idx6
    all_goals have i7 := idx7
    all_goals have i8 := idx8
    all_goals have i9 := idx9
    all_goals have i10 := idx10
    all_goals go_enter Tryd.func35, Tryd.ntmps35
    all_goals go_wp2_with (first
      | (go_at_call 48; refine (known_any _ _).mono ?_; rintro e w1 ⟨rfl, rfl⟩; rw [hk])
      | (go_at_call 47; refine (entries_any _).mono ?_; rintro e w1 ⟨rfl, o, n, rfl⟩))
    all_goals go_ret
    all_goals exact ⟨rfl, belowN (below1 w _) _⟩
theorem type_any (c : Int) (w : World) :
    Calls Tryd.prog 37 #[.int .i64 c] w fun e w' => e = .returned (.string ⟨(typeL c).toArray⟩) ∧ Below w.heap.size w w' := by
  cases hk : knownB c
  · rw [typeL_un hk]
    go_enter Tryd.func37, Tryd.ntmps37
    go_wp2_with (go_at_call 48; refine (known_any _ _).mono ?_; rintro e w1 ⟨rfl, rfl⟩; rw [hk])
    go_ret
    exact ⟨rfl, Below.refl _ _⟩
  · have f0 := fld1
    obtain rfl | rfl | rfl | rfl | rfl | rfl | rfl | rfl | rfl | rfl := known_cases hk
    all_goals have i1 := idx1
    all_goals have i2 := idx2
    all_goals have i3 := idx3
    all_goals have i4 := idx4
    all_goals have i5 := idx5
    all_goals have i6 := idx6
    all_goals have i7 := idx7
    all_goals have i8 := idx8
    all_goals have i9 := idx9
    all_goals have i10 := idx10
    all_goals go_enter Tryd.func37, Tryd.ntmps37
    all_goals go_wp2_with (first
      | (go_at_call 48; refine (known_any _ _).mono ?_; rintro e w1 ⟨rfl, rfl⟩; rw [hk])
      | (go_at_call 47; refine (entries_any _).mono ?_; rintro e w1 ⟨rfl, o, n, rfl⟩))
    all_goals go_ret
    all_goals exact ⟨rfl, belowN (below1 w _) _⟩
end Go.Proofs.YtcfkegfddiglcaaDoor
/-
  What the reference's functions on conditions compute: names, types. No condition but that the number is one of its kind.
-/
namespace Go.Proofs.YtcfkegfddiglcaaDoor
set_option linter.unusedVariables false
set_option linter.unusedSimpArgs false
open Go.RowKit
end Go.Proofs.YtcfkegfddiglcaaDoor
/-
  The condition of a name, by the reference. No condition.
-/
namespace Go.Proofs.YtcfkegfddiglcaaDoor
set_option linter.unusedVariables false
set_option linter.unusedSimpArgs false
open Go.RowKit
theorem condL_hit {k : Int} {s : List UInt8} (hk : knownB k = true) (h : nameL k = s) : condL s = k := by
  subst h
  obtain rfl | rfl | rfl | rfl | rfl | rfl | rfl | rfl | rfl | rfl := known_cases hk
  all_goals decide
theorem condL_none {s : List UInt8} (h : ∀ j : Int, knownB j = true → nameL j ≠ s) : condL s = 0 := by
  unfold condL
  have e : ∀ j : Int, knownB j = true → ¬ s = nameL j := fun j hj e => h j hj e.symm
  refine (if_neg (e 1 rfl)).trans ?_
  refine (if_neg (e 2 rfl)).trans ?_
  refine (if_neg (e 3 rfl)).trans ?_
  refine (if_neg (e 4 rfl)).trans ?_
  refine (if_neg (e 5 rfl)).trans ?_
  refine (if_neg (e 6 rfl)).trans ?_
  refine (if_neg (e 7 rfl)).trans ?_
  refine (if_neg (e 8 rfl)).trans ?_
  refine (if_neg (e 9 rfl)).trans ?_
  refine (if_neg (e 10 rfl)).trans ?_
  rfl
def parseC (s : List UInt8) : Value := .tuple #[.int .i64 (condL s), .bool (knownB (condL s))]
end Go.Proofs.YtcfkegfddiglcaaDoor
/-
  The condition of a name, by the program. No condition.
-/
namespace Go.Proofs.YtcfkegfddiglcaaDoor
set_option linter.unusedVariables false
set_option linter.unusedSimpArgs false
open Go.RowKit
theorem idx0 (w : World) : (Instr.index 79 (.agg entriesC) (.int .i64 0)).run Tryd.prog w = .ok (.agg #[.string ⟨#[]⟩, .string ⟨#[]⟩]) w := by kernel_rfl
def entryV (k : Nat) : Value := .agg #[.string ⟨(nameL k).toArray⟩, .string ⟨(typeL k).toArray⟩]
theorem idxK (k : Nat) (hk : k < 11) (w : World) : (Instr.index 79 (.agg entriesC) (.int .i64 k)).run Tryd.prog w = .ok (.agg #[.string ⟨(nameL k).toArray⟩, .string ⟨(typeL k).toArray⟩]) w := by
  obtain rfl | rfl | rfl | rfl | rfl | rfl | rfl | rfl | rfl | rfl | rfl : k = 0 ∨ k = 1 ∨ k = 2 ∨ k = 3 ∨ k = 4 ∨ k = 5 ∨ k = 6 ∨ k = 7 ∨ k = 8 ∨ k = 9 ∨ k = 10 := by omega
  · exact idx0 w
  · exact idx1 w
  · exact idx2 w
  · exact idx3 w
  · exact idx4 w
  · exact idx5 w
  · exact idx6 w
  · exact idx7 w
  · exact idx8 w
  · exact idx9 w
  · exact idx10 w
theorem condParse_any (s : List UInt8) (w : World) :
    Calls Tryd.prog 33 #[.string ⟨s.toArray⟩] w fun e w' => e = .returned (parseC s) ∧ Below w.heap.size w w' := by
  go_enter Tryd.func33, Tryd.ntmps33
  go_wp2_with (go_at_call 47; refine (entries_any _).mono ?_; rintro e w1 ⟨rfl, o, n, rfl⟩)
  go_loopw [7] (fun i wr => ∃ k : Nat, k ≤ 11 ∧ i = .int .i64 k ∧ Hid (∀ j : Nat, 1 ≤ j → j < k → nameL j ≠ s) ∧ Below w.heap.size w wr) (fun i _ => 11 - (intOf i).toNat)
  case atStart => exact ⟨0, by omega, rfl, fun j h1 h2 => by omega, belowN (below1 w _) _⟩
  case round =>
    obtain ⟨k, h2, rfl, HN, hB⟩ := hrel
    by_cases hk : k < 11
    · have hi := idxK k hk
      by_cases he : nameL k = s
      · have hb : (nameL (k : Int) == s) = true := by simpa using he
        by_cases h0 : k = 0
        · have hkn : knownB k = false := by subst h0; rfl
          have h9 : k + 1 ≤ 11 ∧ k < 1 := by omega
          clear h0
          go_wp2_with (go_at_call 48; refine (known_any _ _).mono ?_; rintro e w1 ⟨rfl, rfl⟩; rw [hkn])
          go_roundw
          case rel =>
            refine ⟨k + 1, by omega, by go_num, fun j g1 g2 => by omega, ?_⟩
            exact belowA hB _
          case measure => simp [intOf]; omega
        · have hkn : knownB k = true := by simp [knownB]; omega
          have hc : Hid (condL s = k) := condL_hit hkn he
          go_wp2_with (go_at_call 48; refine (known_any _ _).mono ?_; rintro e w1 ⟨rfl, rfl⟩; rw [hkn])
          go_ret2
          refine ⟨?_, belowA hB _⟩
          unfold parseC
          rw [hc.out, hkn]
          rfl
      · have hb : (nameL (k : Int) == s) = false := by simpa using he
        go_wp2_with fail
        go_roundw
        case rel =>
          refine ⟨k + 1, by omega, by go_num, fun j g1 g2 => ?_, belowA hB _⟩
          by_cases e : j = k
          · subst e; exact he
          · exact HN.out j g1 (by omega)
        case measure => simp [intOf]; omega
    · obtain rfl : k = 11 := by omega
      have hc : Hid (condL s = 0) := condL_none fun j hj => by
        have := HN.out j.toNat (by simp [knownB] at hj; omega) (by simp [knownB] at hj; omega)
        rwa [show ((j.toNat : Nat) : Int) = j by simp [knownB] at hj; omega] at this
      go_wp2
      go_ret2
      refine ⟨?_, hB⟩
      unfold parseC
      rw [hc.out]
      rfl
end Go.Proofs.YtcfkegfddiglcaaDoor
