/-
  errors.As of a chain at a condition's target; Cond.
-/
import Derived.Test.YtegdmfpdelboaaaDoorFaultAs3
namespace Go.Proofs.YtegdmfpdelboaaaDoor
set_option linter.unusedVariables false
set_option linter.unusedSimpArgs false
open Go.RowKit Go.Extern.Stop Go.Stop Go.Extern
set_option maxRecDepth 20000 in
set_option maxHeartbeats 4000000 in
theorem as_F (t0 : Nat) (c : Int) (ps : List Int) (v old : Value) (w : World) (h : Ch w c ps v) (hg : w.cell? ⟨0, 0, none⟩ = some (.iface 76 (.agg #[.pointer (some ⟨1, 28, none⟩)]))) (ht0' : w.cell? ⟨t0, 0, none⟩ = some old) (hf0' : w.frozen? ⟨t0, 0, none⟩ = false) :
    Calls Tryd.prog 26 #[v, .iface 58 (.pointer (some ⟨t0, 0, none⟩))] w fun ev w' => ev = .returned (.bool true) ∧ w'.cell? ⟨t0, 0, none⟩ = some (.int .i64 c) ∧ Below t0 w w' := by
  obtain ⟨t, ht⟩ : ∃ t : Addr, t = ⟨t0, 0, none⟩ := ⟨_, rfl⟩
  have ht0 : w.cell? t = some old := by rw [ht]; exact ht0'
  have hf0 : w.frozen? t = false := by rw [ht]; exact hf0'
  rw [← ht]
  have h6 := @run_callFunc_extern Tryd.prog 28 _ (fun args => ReflectliteValue.unpack (args.getD 0 (.tuple #[]))) Tryd.func28 (by kernel_rfl) (by kernel_rfl) (by kernel_rfl) (by kernel_rfl)
  have h7 := @run_callFunc_extern Tryd.prog 29 _ (ReflectliteValue.methodAny (ReflectliteValue.valueError "reflectlite.Value.Type" 0) (fun t _ _ _ => ReflectliteType.toType t)) Tryd.func29 (by kernel_rfl) (by kernel_rfl) (by kernel_rfl) (by kernel_rfl)
  have h8 := @run_callFunc_extern Tryd.prog 30 _ (ReflectliteValue.method (ReflectliteValue.valueError "reflectlite.Value.IsNil" 0) ReflectliteValue.isNil) Tryd.func30 (by kernel_rfl) (by kernel_rfl) (by kernel_rfl) (by kernel_rfl)
  have h27 := @run_callFunc_extern Tryd.prog 50 _ (ReflectliteType.abiMethod fun t => do pure (.int .u8 (← Rtype.kind t))) Tryd.func50 (by kernel_rfl) (by kernel_rfl) (by kernel_rfl) (by kernel_rfl)
  have h37 := @run_callFunc_extern Tryd.prog 63 _ (ReflectliteType.method ReflectliteType.elem) Tryd.func63 (by kernel_rfl) (by kernel_rfl) (by kernel_rfl) (by kernel_rfl)
  have h38 := @run_callFunc_extern Tryd.prog 64 _ (ReflectliteType.relation "Implements" ReflectliteType.implements_) Tryd.func64 (by kernel_rfl) (by kernel_rfl) (by kernel_rfl) (by kernel_rfl)
  have f6 := valueOfPF
  have f7 := typePF
  have mK := mKind
  have mE := mElem
  have mI := mImplements
  have k27 := kindPF
  have k25 := kindF
  have e27 := elemTF
  have i25 := implementsF
  have n8 := isNilPF ⟨w.heap.size, 0, none⟩ t ((w.alloc (.cells #[.pointer (some t)] 58)).alloc (.cells #[.pointer (some ⟨1, 58, none⟩), .pointer (some ⟨w.heap.size, 0, none⟩), .int .u64 150] 64)) (by simp)
  have hlt : 0 < w.heap.size := by
    rcases Nat.eq_zero_or_pos w.heap.size with h0 | h
    · simp [World.cell?, h0] at hg
    · exact h
  have hg2 : ((w.alloc (.cells #[.pointer (some t)] 58)).alloc (.cells #[.pointer (some ⟨1, 58, none⟩), .pointer (some ⟨w.heap.size, 0, none⟩), .int .u64 150] 64)).cell? ⟨0, 0, none⟩ = some (.iface 76 (.agg #[.pointer (some ⟨1, 28, none⟩)])) := by
    rw [World.cell?_alloc_lt _ _ ⟨0, 0, none⟩ (by simp), World.cell?_alloc_lt _ _ ⟨0, 0, none⟩ hlt]; exact hg
  have htl : t.block < w.heap.size := by
    rcases Nat.lt_or_ge t.block w.heap.size with h | h
    · exact h
    · simp [World.cell?, Array.getElem?_eq_none h] at ht0
  have hC : Ch ((w.alloc (.cells #[.pointer (some t)] 58)).alloc (.cells #[.pointer (some ⟨1, 58, none⟩), .pointer (some ⟨w.heap.size, 0, none⟩), .int .u64 150] 64)) c ps v := (h.below (below1 w _)).below (below1 _ _)
  have hW : Below w.heap.size w ((w.alloc (.cells #[.pointer (some t)] 58)).alloc (.cells #[.pointer (some ⟨1, 58, none⟩), .pointer (some ⟨w.heap.size, 0, none⟩), .int .u64 150] 64)) := belowT (below1 w _) (below1 _ _)
  have hL := as_loopF w.heap.size t0 c ps v old _ hC
    (by rw [ht, World.cell?_alloc_lt _ _ ⟨w.heap.size, 0, none⟩ (by simp)]; simp)
    (by rw [(bat hW t0 (by rw [ht] at htl; exact htl)).1 0]; exact ht0')
    (by rw [(bat hW t0 (by rw [ht] at htl; exact htl)).2 0]; exact hf0')
    (by simp; omega) (by rw [ht] at htl; have : t0 < w.heap.size := htl; simp; omega)
  obtain ⟨tv, xv, hv⟩ := h.iface
  subst hv
  rw [ht] at *
  go_enter Tryd.func26, Tryd.ntmps26
  go_wp2_with (go_at_call 31; refine hL.mono ?_; rintro e w1 ⟨rfl, o1, o2, rfl⟩)
  go_ret
  have hq : t0 < w.heap.size := htl
  refine ⟨rfl, ?_, ?_⟩
  · have hs : (w.setCell ⟨t0, 0, none⟩ (.int .i64 c)).heap.size = w.heap.size := by simp [World.setCell]
    rw [World.cell?_alloc_lt _ _ ⟨t0, 0, none⟩ (by simp [hs]; omega), World.cell?_alloc_lt _ _ ⟨t0, 0, none⟩ (by simp [hs]; omega), World.cell?_alloc_lt _ _ ⟨t0, 0, none⟩ (by simp [hs]; omega), World.cell?_alloc_lt _ _ ⟨t0, 0, none⟩ (by simp [hs]; omega)]
    rw [World.cell?_setCell_same' _ _ _ (by rw [ht0']; rfl)]
  · have hs : (w.setCell ⟨t0, 0, none⟩ (.int .i64 c)).heap.size = w.heap.size := by simp [World.setCell]
    exact ((((((Below.refl t0 w).setCell (Nat.le_refl _) _).alloc (by simp [hs]; omega) _).alloc (by simp [hs]; omega) _).alloc (by simp [hs]; omega) _)).alloc (by simp [hs]; omega) _
end Go.Proofs.YtegdmfpdelboaaaDoor
