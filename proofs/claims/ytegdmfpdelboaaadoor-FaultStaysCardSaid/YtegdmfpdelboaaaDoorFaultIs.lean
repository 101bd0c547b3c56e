/-
  errors.Is at a chain; Is. No condition but that errorType is laid.
-/
import Derived.Test.YtegdmfpdelboaaaDoorFaultCond
import Derived.LaidEql
import Derived.Laws.StructEq
namespace Go.Proofs.YtegdmfpdelboaaaDoor
set_option linter.unusedVariables false
set_option linter.unusedSimpArgs false
open Go.RowKit Go.Extern.Stop Go.Stop Go.Extern
/-- the model's own entry -/
def cmpF : Array Value → Sem Value := Extern.ReflectliteType.method fun t => do Rtype.noPackHeld "Comparable" t; pure (.bool (← typeInfo t).comparable)
theorem isComparable (w : World) : (cmpF #[.agg #[.pointer (some ⟨1, 54, none⟩)]]).run Tryd.prog w = .ok (.bool true) w := by kernel_rfl
theorem nameF : (((Tryd.prog.fieldsOf 54).toList).getD 0 default).name = "c" := by kernel_rfl
theorem hasIsF (v : Value) (xT : TypeId) (w : World) : (Instr.typeAssert (.iface 54 v) xT 86 true).run Tryd.prog w = .ok (.tuple #[.iface 54 v, .bool true]) w :=
  run_typeAssert_hasB Tryd.underlying86 (by kernel_rfl) v xT w
theorem noIsE (v : Value) (xT : TypeId) (w : World) : (Instr.typeAssert (.iface 48 v) xT 86 true).run Tryd.prog w = .ok (.tuple #[.nilIface, .bool false]) w :=
  run_typeAssert_lacksB Tryd.underlying86 (by kernel_rfl) (by kernel_rfl) v xT w
set_option maxRecDepth 20000 in
theorem mIs (c : Int) (w : World) : (Go.method 220 54 (.agg #[.int .i64 c]) "Is").run Tryd.prog w = .ok (56, .agg #[.int .i64 c]) w := by kernel_rfl
theorem partF (c : Int) (w : World) : (part 22 #[.int .i64 c] 0).run Tryd.prog w = .ok (.int .i64 c) w := by kernel_rfl
theorem fieldsF : ∃ f, (Tryd.prog.fieldsOf 54).toList = [f] ∧ f.name ≠ "_" ∧ f.type = 22 ∧ f.offset = 0 :=
  ⟨((Tryd.prog.fieldsOf 54).toList).getD 0 default, by kernel_rfl, by rw [nameF]; decide, by kernel_rfl, by kernel_rfl⟩
theorem eqlFF (c o : Int) (w : World) : (binOp .eql 28 (.iface 54 (.agg #[.int .i64 c])) (.iface 54 (.agg #[.int .i64 o]))).run Tryd.prog w = .ok (.bool (c == o)) w := by
  obtain ⟨i, hi, hcmp⟩ := Option.map_eq_some_iff.1 (show (Tryd.prog.info? 54).map (·.comparable) = some true by kernel_rfl)
  obtain ⟨f, hf, hn, hft, hfo⟩ := fieldsF
  have h1 : (Op.equalIn 9999 54 (.agg #[.int .i64 c]) (.agg #[.int .i64 o])).run Tryd.prog w = .ok (c == o) w := by
    rw [run_equalIn_struct (P := Tryd.prog) w 9998 54 _ _ (by kernel_rfl) (by kernel_rfl), hf]
    have h2 : (Op.equalIn 9998 22 (.int .i64 c) (.int .i64 o)).run Tryd.prog w = .ok (c == o) w := run_equalIn_int w 9997 22 .i64 .i64 c o Tryd.underlying22
    simp only [Op.eqFields, hft, hfo, Sem.run_bind, Sem.run_ite, partF, Result.andThen_ok, h2, Sem.run_pure, if_pos hn]
    cases (c == o) <;> rfl
  have h3 : (Op.equalIn 10000 28 (.iface 54 (.agg #[.int .i64 c])) (.iface 54 (.agg #[.int .i64 o]))).run Tryd.prog w = .ok (c == o) w := by
    rw [show (10000 : Nat) = 9999 + 1 from rfl, Op.equalIn]
    simp [run_underlying Tryd.underlying28, typeInfo, hi, hcmp, h1]
  simp only [binOp]
  simp only [Op.equal, Op.maxDepth]
  simp [h3]
theorem asF (v : Value) (w : World) : (Instr.typeAssert (.iface 54 v) 28 54 true).run Tryd.prog w = .ok (.tuple #[v, .bool true]) w := by kernel_rfl
theorem isM_other (c o : Int) (hne : o ≠ c) (w : World) :
    Calls Tryd.prog 56 #[.agg #[.int .i64 c], .iface 54 (.agg #[.int .i64 o])] w fun e w' => e = .returned (.bool false) ∧ Below w.heap.size w w' := by
  have hA := asF
  go_enter Tryd.func56, Tryd.ntmps56
  go_wp2
  go_ret
  exact ⟨by simp [hne], belowT (below1 w _) (below1 _ _)⟩
set_option maxRecDepth 20000 in
set_option maxHeartbeats 4000000 in
theorem is_loop (o c : Int) (ps : List Int) (v : Value) (w : World) (h : Ch w c ps v) :
    Calls Tryd.prog 33 #[v, .iface 54 (.agg #[.int .i64 o]), .bool true] w fun e w' => e = .returned (.bool (c == o)) ∧ Below w.heap.size w w' := by
  have hI := hasIsF
  have hE := noIsE
  have hN := noUnwrap
  have hU := hasUnwrap
  have hS := noUnwrapsF
  have mI := mIs
  go_enter Tryd.func33, Tryd.ntmps33
  go_wp2
  go_loopw [0] (fun v wr => ∃ qs, Hid (Ch w c qs v) ∧ w = wr) (fun v _ => depthOf w c v)
  case atStart => exact ⟨ps, h, rfl⟩
  case round =>
    obtain ⟨qs, hq, rfl⟩ := hrel
    cases qs with
    | nil =>
      obtain rfl := hq
      cases hco : (c == o) with
      | true =>
        have heq := (eqlFF c o w).trans (by rw [hco])
        go_wp2
        go_ret
        exact ⟨by rw [hco]; rfl, Below.refl _ _⟩
      | false =>
        have heq := (eqlFF c o w).trans (by rw [hco])
        have hne : o ≠ c := fun e => by subst e; simp at hco
        go_wp2_with (go_at_call 56; refine (isM_other c o hne _).mono ?_; rintro e w1 ⟨rfl, hb⟩)
        go_ret
        exact ⟨by rw [hco]; rfl, hb⟩
    | cons q qs =>
      obtain ⟨B, u, rfl, h2, h3, h4, h5⟩ := hq
      have hty := run_eql_iface_types (P := Tryd.prog) 48 54 (.pointer (some ⟨B, 0, none⟩)) (.agg #[.int .i64 o]) Tryd.underlying28 (by decide)
      have hm : ∀ w : World, (method 220 48 (.pointer (some ⟨B, 0, none⟩)) "Unwrap").run Tryd.prog w = .ok (54, .pointer (some ⟨B, 0, none⟩)) w := fun _ => by kernel_rfl
      obtain ⟨tu, xu, hu⟩ := h5.iface
      subst hu
      go_wp2_with (go_at_call 54; refine (unwrapM_any B _ _ h3).mono ?_; rintro e w1 ⟨rfl, rfl⟩)
      go_roundw
      case rel => exact ⟨qs, h5, trivial⟩
      case measure =>
        have e1 := depthOf_eq h5
        have e2 := depthOf_eq (w := w) (c := c) (ps := q :: qs) ⟨B, _, rfl, h2, h3, h4, h5⟩
        rw [List.length_cons] at e2
        show depthOf w c _ < depthOf w c _
        rw [e1, e2]
        omega
theorem is_any (o c : Int) (ps : List Int) (v : Value) (w : World) (h : Ch w c ps v) :
    Calls Tryd.prog 27 #[v, .iface 54 (.agg #[.int .i64 o])] w fun e w' => e = .returned (.bool (c == o)) ∧ Below w.heap.size w w' := by
  have h8 := @run_callFunc_extern Tryd.prog 32 _ ReflectliteType.typeOf Tryd.func32 (by kernel_rfl) (by kernel_rfl) (by kernel_rfl) (by kernel_rfl)
  have h32 := @run_callFunc_extern Tryd.prog 62 _ cmpF Tryd.func62 (by kernel_rfl) (by kernel_rfl) (by kernel_rfl) (by kernel_rfl)
  have tT := typeOfF
  have cT := isComparable
  have mR := mComparable
  obtain ⟨tu, xu, hu⟩ := h.iface
  subst hu
  go_enter Tryd.func27, Tryd.ntmps27
  go_wp2_with (go_at_call 33; refine (is_loop o c ps _ _ h).mono ?_; rintro e w1 ⟨rfl, hb⟩)
  go_ret
  exact ⟨rfl, hb⟩
theorem is_nil (o : Int) (w : World) :
    Calls Tryd.prog 27 #[.nilIface, .iface 54 (.agg #[.int .i64 o])] w fun e w' => e = .returned (.bool false) ∧ w' = w := by
  have hn := run_eql_iface_nil_left (P := Tryd.prog) w 54 (.agg #[.int .i64 o]) Tryd.underlying28
  go_enter Tryd.func27, Tryd.ntmps27
  go_wp2
  go_ret
  exact ⟨rfl, rfl⟩
end Go.Proofs.YtegdmfpdelboaaaDoor
