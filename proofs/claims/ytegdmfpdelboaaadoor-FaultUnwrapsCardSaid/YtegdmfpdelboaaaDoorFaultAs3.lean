/-
  errors.As of a chain at a condition's target: the condition is found, however often it was wrapped.
-/
import Derived.Test.YtegdmfpdelboaaaDoorFaultAs2
namespace Go.Proofs.YtegdmfpdelboaaaDoor
set_option linter.unusedVariables false
set_option linter.unusedSimpArgs false
open Go.RowKit Go.Extern.Stop Go.Stop Go.Extern
theorem Ch.unique {w : World} {c : Int} : ∀ {ps qs : List Int} {v : Value}, Ch w c ps v → Ch w c qs v → ps = qs
  | [], [], _, _, _ => rfl
  | [], _ :: _, _, h, ⟨_, _, h', _⟩ => by
    simp only [Ch] at h
    rw [h] at h'
    simp at h'
  | _ :: _, [], _, ⟨_, _, h', _⟩, h => by
    simp only [Ch] at h
    rw [h] at h'
    simp at h'
  | p :: ps, q :: qs, _, ⟨B, u, h1, _, h3, h4, h5⟩, ⟨B', u', g1, _, g3, g4, g5⟩ => by
    rw [h1] at g1
    simp at g1
    subst g1
    rw [h3] at g3
    rw [h4] at g4
    simp at g3 g4
    subst g3 g4
    rw [Ch.unique h5 g5]
open Classical in
/-- how often a value is wrapped -/
noncomputable def depthOf (w : World) (c : Int) (v : Value) : Nat := if h : ∃ ps, Ch w c ps v then h.choose.length else 0
theorem depthOf_eq {w : World} {c : Int} {ps : List Int} {v : Value} (h : Ch w c ps v) : depthOf w c v = ps.length := by
  have hx : ∃ ps, Ch w c ps v := ⟨ps, h⟩
  unfold depthOf
  rw [dif_pos hx, Ch.unique hx.choose_spec h]
set_option maxRecDepth 20000 in
set_option maxHeartbeats 4000000 in
theorem as_loopF (b t : Nat) (c : Int) (ps : List Int) (v old : Value) (w : World) (h : Ch w c ps v) (hb : w.cell? ⟨b, 0, none⟩ = some (.pointer (some ⟨t, 0, none⟩))) (ht0 : w.cell? ⟨t, 0, none⟩ = some old) (hf0 : w.frozen? ⟨t, 0, none⟩ = false) (hbl : b < w.heap.size) (htl : t < w.heap.size) :
    Calls Tryd.prog 31 #[v, .iface 58 (.pointer (some ⟨t, 0, none⟩)), .agg #[.pointer (some ⟨1, 58, none⟩), .pointer (some ⟨b, 0, none⟩), .int .u64 150], .iface 76 (.agg #[.pointer (some ⟨1, 54, none⟩)])] w
      fun e w' => e = .returned (.bool true) ∧ ∃ o1 o2, w' = ((w.setCell ⟨t, 0, none⟩ (.int .i64 c)).alloc o1).alloc o2 := by
  have h6 := @run_callFunc_extern Tryd.prog 28 _ (fun args => ReflectliteValue.unpack (args.getD 0 (.tuple #[]))) Tryd.func28 (by kernel_rfl) (by kernel_rfl) (by kernel_rfl) (by kernel_rfl)
  have h10 := @run_callFunc_extern Tryd.prog 32 _ ReflectliteType.typeOf Tryd.func32 (by kernel_rfl) (by kernel_rfl) (by kernel_rfl) (by kernel_rfl)
  have h35 := @run_callFunc_extern Tryd.prog 61 _ (ReflectliteType.relation "AssignableTo" ReflectliteType.assignableTo) Tryd.func61 (by kernel_rfl) (by kernel_rfl) (by kernel_rfl) (by kernel_rfl)
  have h11 := @run_callFunc_extern Tryd.prog 34 _ (ReflectliteValue.method (ReflectliteValue.valueError "reflectlite.Value.Elem" 0) ReflectliteValue.elem) Tryd.func34 (by kernel_rfl) (by kernel_rfl) (by kernel_rfl) (by kernel_rfl)
  have h12 := @run_callFunc_extern Tryd.prog 35 _ ReflectliteValue.set Tryd.func35 (by kernel_rfl) (by kernel_rfl) (by kernel_rfl) (by kernel_rfl)
  have tF := typeOfF
  have tE := typeOfE
  have mA := mAssignableTo
  have aF := assignFF
  have aE := assignEF
  have vF := valueOfF
  have nA := noAsE
  have nU := hasUnwrap
  have el := elemVF ⟨b, 0, none⟩ ⟨t, 0, none⟩ (w.alloc (.cells #[.pointer (some ⟨1, 58, none⟩), .pointer (some ⟨b, 0, none⟩), .int .u64 150] 64)) (by rw [World.cell?_alloc_lt _ _ ⟨b, 0, none⟩ hbl]; exact hb)
  have st := setF t (w.heap.size + 1) c old ((w.alloc (.cells #[.pointer (some ⟨1, 58, none⟩), .pointer (some ⟨b, 0, none⟩), .int .u64 150] 64)).alloc (.cells #[.int .i64 c] 54))
    (by rw [World.cell?_alloc_at _ _ _ _ (by simp)]; rfl)
    (by rw [World.cell?_alloc_lt _ _ ⟨t, 0, none⟩ (by simp; omega), World.cell?_alloc_lt _ _ ⟨t, 0, none⟩ htl]; exact ht0)
    (by rw [World.frozen?_alloc_old _ _ ⟨t, 0, none⟩ (by simp; omega), World.frozen?_alloc_old _ _ ⟨t, 0, none⟩ (Nat.ne_of_lt htl)]; exact hf0)
  go_enter Tryd.func31, Tryd.ntmps31
  go_wp2
  go_loopw [0] (fun v wr => ∃ qs, Hid (Ch w c qs v) ∧ wr = w.alloc (.cells #[.pointer (some ⟨1, 58, none⟩), .pointer (some ⟨b, 0, none⟩), .int .u64 150] 64)) (fun v _ => depthOf w c v)
  case atStart => exact ⟨ps, h, rfl⟩
  case round =>
    obtain ⟨qs, hq, rfl⟩ := hrel
    cases qs with
    | nil =>
      obtain rfl := hq
      go_wp2
      go_ret
      exact ⟨rfl, _, _, rfl⟩
    | cons q qs =>
      obtain ⟨B, u, rfl, h2, h3, h4, h5⟩ := hq
      have h3' := ((bat (below1 w (.cells #[.pointer (some ⟨1, 58, none⟩), .pointer (some ⟨b, 0, none⟩), .int .u64 150] 64)) B h2).1 0).trans h3
      have hm : ∀ w : World, (method 220 48 (.pointer (some ⟨B, 0, none⟩)) "Unwrap").run Tryd.prog w = .ok (54, .pointer (some ⟨B, 0, none⟩)) w := fun _ => by kernel_rfl
      obtain ⟨tu, xu, hu⟩ := h5.iface
      subst hu
      go_wp2_with (go_at_call 54; refine (unwrapM_any B _ _ h3').mono ?_; rintro e w1 ⟨rfl, rfl⟩)
      go_roundw
      case rel => exact ⟨qs, h5, trivial⟩
      case measure =>
        have e1 := depthOf_eq h5
        have e2 := depthOf_eq (w := w) (c := c) (ps := q :: qs) ⟨B, _, rfl, h2, h3, h4, h5⟩
        rw [List.length_cons] at e2
        show depthOf w c _ < depthOf w c _
        rw [e1, e2]
        omega
end Go.Proofs.YtegdmfpdelboaaaDoor
