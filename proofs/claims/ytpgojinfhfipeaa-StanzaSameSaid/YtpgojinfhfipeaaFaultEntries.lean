/-
  The table of conditions: what 'entries' hands back. No condition.
-/
import Derived.Test.YtpgojinfhfipeaaProg
import Derived.Test.YtpgojinfhfipeaaFaultPure
import Derived.Test.YtpgojinfhfipeaaBase
import Derived.LoopTactic
import Derived.Outline
import Derived.Laws.Tables
import Derived.Deep.DeepCutAuto
import Derived.Great.Walk
import Derived.Deep.WholeRow
namespace Go.Proofs.Ytpgojinfhfipeaa
set_option linter.unusedVariables false
set_option linter.unusedSimpArgs false
open Go.RowKit
def cellsE (b1 b2 b3 b4 b5 b6 b7 b8 b9 b10 b11 b12 b13 b14 : ByteArray) : Array Value := #[.string ⟨#[]⟩, .string ⟨#[]⟩, .string b1, .string b11, .string b2, .string b12, .string b3, .string b13, .string b4, .string b12, .string b5, .string b11, .string b6, .string b12, .string b7, .string b13, .string b8, .string b14, .string b9, .string b12, .string b10, .string b14]
theorem buildE (b1 b2 b3 b4 b5 b6 b7 b8 b9 b10 b11 b12 b13 b14 : ByteArray) (w : World) : (Instr.build 82 #[(1, .agg #[.string b1, .string b11]), (2, .agg #[.string b2, .string b12]), (3, .agg #[.string b3, .string b13]), (4, .agg #[.string b4, .string b12]), (5, .agg #[.string b5, .string b11]), (6, .agg #[.string b6, .string b12]), (7, .agg #[.string b7, .string b13]), (8, .agg #[.string b8, .string b14]), (9, .agg #[.string b9, .string b12]), (10, .agg #[.string b10, .string b14])]).run Try.prog w = .ok (.agg (cellsE b1 b2 b3 b4 b5 b6 b7 b8 b9 b10 b11 b12 b13 b14)) w :=
  run_build w _ _ _ (by kernel_rfl)
theorem infoE : (Try.prog.info? 82).map (·.size) = some 22 := by kernel_rfl
theorem storeE (b1 b2 b3 b4 b5 b6 b7 b8 b9 b10 b11 b12 b13 b14 : ByteArray) (w : World) : (Instr.storeAt 82 (.pointer (some ⟨w.heap.size, 0, none⟩)) (.agg (cellsE b1 b2 b3 b4 b5 b6 b7 b8 b9 b10 b11 b12 b13 b14))).run Try.prog (w.alloc (.cells #[.string ⟨#[]⟩, .string ⟨#[]⟩, .string ⟨#[]⟩, .string ⟨#[]⟩, .string ⟨#[]⟩, .string ⟨#[]⟩, .string ⟨#[]⟩, .string ⟨#[]⟩, .string ⟨#[]⟩, .string ⟨#[]⟩, .string ⟨#[]⟩, .string ⟨#[]⟩, .string ⟨#[]⟩, .string ⟨#[]⟩, .string ⟨#[]⟩, .string ⟨#[]⟩, .string ⟨#[]⟩, .string ⟨#[]⟩, .string ⟨#[]⟩, .string ⟨#[]⟩, .string ⟨#[]⟩, .string ⟨#[]⟩] 82)) = .ok () (w.alloc (.cells (cellsE b1 b2 b3 b4 b5 b6 b7 b8 b9 b10 b11 b12 b13 b14) 82)) :=
  run_storeAt_new w _ _ _ infoE rfl (by kernel_rfl)
theorem loadE (b1 b2 b3 b4 b5 b6 b7 b8 b9 b10 b11 b12 b13 b14 : ByteArray) (w : World) : (loadVar 82 ⟨w.heap.size, 0, none⟩).run Try.prog (w.alloc (.cells (cellsE b1 b2 b3 b4 b5 b6 b7 b8 b9 b10 b11 b12 b13 b14) 82)) = .ok (.agg (cellsE b1 b2 b3 b4 b5 b6 b7 b8 b9 b10 b11 b12 b13 b14)) (w.alloc (.cells (cellsE b1 b2 b3 b4 b5 b6 b7 b8 b9 b10 b11 b12 b13 b14) 82)) :=
  run_loadVar_new w _ _ 11 81 Try.underlying82 infoE
theorem wpList_build {P : Program} {ops : Array Oper} {rest : List Oper} {o : Oper} {a : Act} {w : World} {Q : Exit → Act → World → Prop} (hg : o.guard = none) (dst : Option Tmp) (hdst : o.dst = dst) {t : TypeId} {parts : Array (Nat × Operand)} (hop : o.op = .build t parts)
    (cells : Array Value) (hb : P.built t (parts.map fun (i, x) => (i, a.eval x)).toList = some cells) (h : wpList P ops Q rest (a.put dst (.agg cells)) w) : wpList P ops Q (o :: rest) a w := by
  refine Go.Great.wpList_runTo hg dst hdst (.agg cells) w ?_ h
  unfold execOp
  simp only [hop, Sem.run_bind, run_build w t _ cells hb, Result.andThen_ok, Sem.run_pure]
theorem wpList_storeE {P : Program} {ops : Array Oper} {rest : List Oper} {o : Oper} {a : Act} {w w' : World} {Q : Exit → Act → World → Prop} (hg : o.guard = none) (hdst : o.dst = none) {t : TypeId} {p x : Operand} (hop : o.op = .store t p x) {v u : Value} (hp : a.eval p = v) (hx : a.eval x = u)
    (hs : (Instr.storeAt t v u).run P w = .ok () w') (h : wpList P ops Q rest a w') : wpList P ops Q (o :: rest) a w := by
  refine wpList_plain hg fun K hK => ?_
  unfold Oper.wp execOp
  simp only [hop, hp, hx, Sem.run_bind, hs, Result.andThen_ok, Sem.run_pure, hdst]
  rw [Oper.upon_skip]
  exact hK _ _ (by rw [hdst]; exact h)
def entriesC : Array Value := cellsE ⟨#[98, 97, 100, 45, 114, 101, 113, 117, 101, 115, 116]⟩ ⟨#[99, 111, 110, 102, 108, 105, 99, 116]⟩ ⟨#[102, 111, 114, 98, 105, 100, 100, 101, 110]⟩ ⟨#[105, 116, 101, 109, 45, 110, 111, 116, 45, 102, 111, 117, 110, 100]⟩ ⟨#[106, 105, 100, 45, 109, 97, 108, 102, 111, 114, 109, 101, 100]⟩ ⟨#[110, 111, 116, 45, 97, 108, 108, 111, 119, 101, 100]⟩ ⟨#[110, 111, 116, 45, 97, 117, 116, 104, 111, 114, 105, 122, 101, 100]⟩ ⟨#[114, 101, 115, 111, 117, 114, 99, 101, 45, 99, 111, 110, 115, 116, 114, 97, 105, 110, 116]⟩ ⟨#[115, 101, 114, 118, 105, 99, 101, 45, 117, 110, 97, 118, 97, 105, 108, 97, 98, 108, 101]⟩ ⟨#[117, 110, 101, 120, 112, 101, 99, 116, 101, 100, 45, 114, 101, 113, 117, 101, 115, 116]⟩ ⟨#[109, 111, 100, 105, 102, 121]⟩ ⟨#[99, 97, 110, 99, 101, 108]⟩ ⟨#[97, 117, 116, 104]⟩ ⟨#[119, 97, 105, 116]⟩
theorem entries_any (w : World) :
    Calls Try.prog 45 #[] w fun e w' => e = .returned (.agg entriesC) ∧ ∃ o n, w' = (w.alloc o).drewN n := by
  unfold entriesC
  go_enter Try.func45, Try.ntmps45
  generalize hb1 : ByteArray.mk #[98, 97, 100, 45, 114, 101, 113, 117, 101, 115, 116] = b1
  generalize hb2 : ByteArray.mk #[99, 111, 110, 102, 108, 105, 99, 116] = b2
  generalize hb3 : ByteArray.mk #[102, 111, 114, 98, 105, 100, 100, 101, 110] = b3
  generalize hb4 : ByteArray.mk #[105, 116, 101, 109, 45, 110, 111, 116, 45, 102, 111, 117, 110, 100] = b4
  generalize hb5 : ByteArray.mk #[106, 105, 100, 45, 109, 97, 108, 102, 111, 114, 109, 101, 100] = b5
  generalize hb6 : ByteArray.mk #[110, 111, 116, 45, 97, 108, 108, 111, 119, 101, 100] = b6
  generalize hb7 : ByteArray.mk #[110, 111, 116, 45, 97, 117, 116, 104, 111, 114, 105, 122, 101, 100] = b7
  generalize hb8 : ByteArray.mk #[114, 101, 115, 111, 117, 114, 99, 101, 45, 99, 111, 110, 115, 116, 114, 97, 105, 110, 116] = b8
  generalize hb9 : ByteArray.mk #[115, 101, 114, 118, 105, 99, 101, 45, 117, 110, 97, 118, 97, 105, 108, 97, 98, 108, 101] = b9
  generalize hb10 : ByteArray.mk #[117, 110, 101, 120, 112, 101, 99, 116, 101, 100, 45, 114, 101, 113, 117, 101, 115, 116] = b10
  generalize hb11 : ByteArray.mk #[109, 111, 100, 105, 102, 121] = b11
  generalize hb12 : ByteArray.mk #[99, 97, 110, 99, 101, 108] = b12
  generalize hb13 : ByteArray.mk #[97, 117, 116, 104] = b13
  generalize hb14 : ByteArray.mk #[119, 97, 105, 116] = b14
  go_upto_region 1 with (fail)
  refine wp_region_lit ?_
  refine wpList_build rfl (some 1) rfl rfl #[.string b1, .string b11] (by kernel_rfl) ?_
  simp only [Act.put, List.setIfInBounds_toArray, List.set_cons_zero, List.set_cons_succ]
  refine wpList_build rfl (some 2) rfl rfl #[.string b2, .string b12] (by kernel_rfl) ?_
  simp only [Act.put, List.setIfInBounds_toArray, List.set_cons_zero, List.set_cons_succ]
  refine wpList_build rfl (some 3) rfl rfl #[.string b3, .string b13] (by kernel_rfl) ?_
  simp only [Act.put, List.setIfInBounds_toArray, List.set_cons_zero, List.set_cons_succ]
  refine wpList_build rfl (some 4) rfl rfl #[.string b4, .string b12] (by kernel_rfl) ?_
  simp only [Act.put, List.setIfInBounds_toArray, List.set_cons_zero, List.set_cons_succ]
  refine wpList_build rfl (some 5) rfl rfl #[.string b5, .string b11] (by kernel_rfl) ?_
  simp only [Act.put, List.setIfInBounds_toArray, List.set_cons_zero, List.set_cons_succ]
  refine wpList_build rfl (some 6) rfl rfl #[.string b6, .string b12] (by kernel_rfl) ?_
  simp only [Act.put, List.setIfInBounds_toArray, List.set_cons_zero, List.set_cons_succ]
  refine wpList_build rfl (some 7) rfl rfl #[.string b7, .string b13] (by kernel_rfl) ?_
  simp only [Act.put, List.setIfInBounds_toArray, List.set_cons_zero, List.set_cons_succ]
  refine wpList_build rfl (some 8) rfl rfl #[.string b8, .string b14] (by kernel_rfl) ?_
  simp only [Act.put, List.setIfInBounds_toArray, List.set_cons_zero, List.set_cons_succ]
  refine wpList_build rfl (some 9) rfl rfl #[.string b9, .string b12] (by kernel_rfl) ?_
  simp only [Act.put, List.setIfInBounds_toArray, List.set_cons_zero, List.set_cons_succ]
  refine wpList_build rfl (some 10) rfl rfl #[.string b10, .string b14] (by kernel_rfl) ?_
  simp only [Act.put, List.setIfInBounds_toArray, List.set_cons_zero, List.set_cons_succ]
  refine wpList_build rfl (some 11) rfl rfl (cellsE b1 b2 b3 b4 b5 b6 b7 b8 b9 b10 b11 b12 b13 b14) (by kernel_rfl) ?_
  simp only [Act.put, List.setIfInBounds_toArray, List.set_cons_zero, List.set_cons_succ]
  refine wpList_storeE rfl rfl rfl rfl rfl (storeE b1 b2 b3 b4 b5 b6 b7 b8 b9 b10 b11 b12 b13 b14 w) ?_
  refine wpList_nil ?_
  go_wp2
  exact bodyPost_ret (v := .agg (cellsE b1 b2 b3 b4 b5 b6 b7 b8 b9 b10 b11 b12 b13 b14)) (results_cell Try.results45 rfl (loadE b1 b2 b3 b4 b5 b6 b7 b8 b9 b10 b11 b12 b13 b14 w)) rfl ⟨rfl, _, 0, rfl⟩
end Go.Proofs.Ytpgojinfhfipeaa
