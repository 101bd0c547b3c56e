/-
  The opening of a stanza that the law is handed. No condition.
-/
import Derived.Test.YtjpdadibeocpfaaDoorOpenTk
import Derived.Test.YtjpdadibeocpfaaDoorStRe
namespace Go.Proofs.YtjpdadibeocpfaaDoor
set_option linter.unusedVariables false
set_option linter.unusedSimpArgs false
open Go.RowKit Go.MapKept Go.ChangeShapes Go.WideShapes Go.ChangeAt Go.Joins Go.Deep
theorem array6 {α : Type} {cs : Array α} (h : cs.size = 6) : ∃ c0 c1 c2 c3 c4 c5, cs = #[c0, c1, c2, c3, c4, c5] := by
  obtain ⟨l⟩ := cs
  match l, h with
  | [c0, c1, c2, c3, c4, c5], _ => exact ⟨c0, c1, c2, c3, c4, c5, rfl⟩
theorem list6 {α : Type} {l : List α} (h : l.length = 6) : ∃ a b c d e f, l = [a, b, c, d, e, f] := by
  match l, h with
  | [a, b, c, d, e, f], _ => exact ⟨a, b, c, d, e, f, rfl⟩
theorem stF : ∃ f0 f1 f2 f3 f4 f5, Tryd.prog.underlying 45 = some (.struct #[f0, f1, f2, f3, f4, f5]) ∧ (f0.offset = 0 ∧ f1.offset = 1 ∧ f2.offset = 2 ∧ f3.offset = 3 ∧ f4.offset = 4 ∧ f5.offset = 5) ∧ Tryd.prog.underlying f0.type = some (.int .u8) ∧ Tryd.prog.cellsOf f0.type = 1 ∧ f1.type = 9 ∧ f2.type = 9 ∧ f3.type = 9 ∧ f4.type = 9 ∧ f5.type = 25 :=
  ⟨_, _, _, _, _, _, Tryd.underlying45, ⟨rfl, rfl, rfl, rfl, rfl, rfl⟩, by kernel_rfl, by kernel_rfl, rfl, rfl, rfl, rfl, rfl⟩
theorem wf8 {z : Int} (h : (Lit.int .u8 z).wf = true) : 0 ≤ z ∧ z < 256 := by
  have h1 : IntKind.u8.min = 0 := rfl
  have h2 : IntKind.u8.max = 255 := rfl
  simp [Lit.wf, h1, h2] at h
  omega
theorem cSz : Tryd.prog.cellsOf 45 = 6 := by kernel_rfl
theorem cST : Tryd.prog.cellsOf 25 = 1 := by kernel_rfl
section
variable {H : Type} {enc : TypeId × Value → H} {W : World} {base b0 : Nat} {spare : Nat → Bool} {held : Bool} {r : Reach}
set_option maxRecDepth 100000 in
theorem openStanza {ts : List TypeId} {ds : List (DataW H)} {j : Nat} {v : Value} {d : DataW H} {p : List MemPlace} (hv : Value.okWide Tryd.prog W r b0 45 v) (h : DataW.Trod enc Tryd.prog W base spare held 45 v d p)
    (hsz : (DataW.weightsEach Tryd.prog ts ds).all (· ≤ reachBytes) = true) (ht : ts[j]? = some 45) (hd : ds[j]? = some d) : ∃ (z : Sz) (sv : Value), v = szV z sv ∧ TkS W sv z.pl ∧ z.smallF ∧ TksB 140737488351232 z.pl ∧ z.k < 256 := by
  obtain ⟨f0, f1, f2, f3, f4, f5, hs, ⟨o0, o1, o2, o3, o4, o5⟩, u0, k0, t1, t2, t3, t4, t5⟩ := stF
  obtain ⟨cs, rfl, hcs⟩ := okWide_struct hs hv
  obtain ⟨c0, c1, c2, c3, c4, c5, rfl⟩ := array6 (hcs.trans cSz)
  obtain ⟨fuel, hf⟩ := h
  obtain ⟨xs, n, _, hx, hl, hlen, hxs⟩ := DataW.trod_struct hs hf
  obtain ⟨y0, y1, y2, y3, y4, y5, rfl⟩ := list6 (show xs.length = 6 from hlen)
  have g0 := hxs 0 f0 rfl
  have g1 := hxs 1 f1 rfl
  have g2 := hxs 2 f2 rfl
  have g3 := hxs 3 f3 rfl
  have g4 := hxs 4 f4 rfl
  have g5 := hxs 5 f5 rfl
  rw [t1] at g1
  rw [t2] at g2
  rw [t3] at g3
  rw [t4] at g4
  rw [t5] at g5
  simp [Value.cells, o0, k0] at g0
  simp [Value.cells, o1, cSt] at g1
  simp [Value.cells, o2, cSt] at g2
  simp [Value.cells, o3, cSt] at g3
  simp [Value.cells, o4, cSt] at g4
  simp [Value.cells, o5, cST] at g5
  obtain ⟨z0, ez, _, hwf⟩ := DataW.trod_int u0 g0
  obtain rfl : c0 = .int .u8 z0 := by simpa using ez
  obtain ⟨s1, rfl, e1⟩ := strOf g1
  obtain ⟨s2, rfl, e2⟩ := strOf g2
  obtain ⟨s3, rfl, e3⟩ := strOf g3
  obtain ⟨s4, rfl, e4⟩ := strOf g4
  obtain ⟨l, hT, hB⟩ := tks_of g5
  have hz : 0 ≤ z0 ∧ z0 < 256 := wf8 hwf
  obtain ⟨k, rfl⟩ : ∃ k : Nat, z0 = k := ⟨z0.toNat, by omega⟩
  have hd2 : d = .agg [y0.1, y1.1, y2.1, y3.1, y4.1, y5.1] := by simp only [Prod.mk.injEq] at hx; simpa using hx.1
  have hw : ∀ n ∈ d.weights Tryd.prog 45, n ≤ 140737488351232 := fun n hn => of_decide_eq_true (List.all_eq_true.1 hsz _ (DataW.weights_mem_each ht hd n hn))
  rw [hd2] at hw
  simp only [DataW.weights, hs] at hw
  simp only [DataW.weightsEach, List.map_cons, List.map_nil, t1, t2, t3, t4, t5, e1, e2, e3, e4, DataW.weights, List.mem_append, List.mem_cons, List.mem_nil_iff, or_false] at hw
  refine ⟨⟨k, s1, s2, s3, s4, l⟩, c5, rfl, hT, ⟨hw _ (by simp), hw _ (by simp), hw _ (by simp), hw _ (by simp)⟩, hB _ (fun n hn => hw n (by simp [hn])), by show k < 256; omega⟩
end
end Go.Proofs.YtjpdadibeocpfaaDoor
