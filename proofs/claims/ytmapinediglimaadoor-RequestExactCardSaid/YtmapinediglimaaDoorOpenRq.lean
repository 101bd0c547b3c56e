/-
  The opening of a request that the law is handed. No condition.
-/
import Derived.Test.YtmapinediglimaaDoorOpenTk
import Derived.Test.YtmapinediglimaaDoorRqRest
namespace Go.Proofs.YtmapinediglimaaDoor
set_option linter.unusedVariables false
set_option linter.unusedSimpArgs false
open Go.RowKit Go.MapKept Go.ChangeShapes Go.WideShapes Go.ChangeAt Go.Joins Go.Deep
theorem array11 {α : Type} {cs : Array α} (h : cs.size = 11) : ∃ c0 c1 c2 c3 c4 c5 c6 c7 c8 c9 c10, cs = #[c0, c1, c2, c3, c4, c5, c6, c7, c8, c9, c10] := by
  obtain ⟨l⟩ := cs
  match l, h with
  | [c0, c1, c2, c3, c4, c5, c6, c7, c8, c9, c10], _ => exact ⟨c0, c1, c2, c3, c4, c5, c6, c7, c8, c9, c10, rfl⟩
theorem list11 {α : Type} {l : List α} (h : l.length = 11) : ∃ c0 c1 c2 c3 c4 c5 c6 c7 c8 c9 c10, l = [c0, c1, c2, c3, c4, c5, c6, c7, c8, c9, c10] := by
  match l, h with
  | [c0, c1, c2, c3, c4, c5, c6, c7, c8, c9, c10], _ => exact ⟨c0, c1, c2, c3, c4, c5, c6, c7, c8, c9, c10, rfl⟩
theorem rqF : ∃ f0 f1 f2 f3 f4 f5 f6 f7 f8 f9 f10, Tryd.prog.underlying 26 = some (.struct #[f0, f1, f2, f3, f4, f5, f6, f7, f8, f9, f10]) ∧ (f0.offset = 0 ∧ f1.offset = 1 ∧ f2.offset = 2 ∧ f3.offset = 3 ∧ f4.offset = 4 ∧ f5.offset = 5 ∧ f6.offset = 6 ∧ f7.offset = 7 ∧ f8.offset = 8 ∧ f9.offset = 9 ∧ f10.offset = 10) ∧
    (Tryd.prog.underlying f0.type = some (.int .u8) ∧ Tryd.prog.cellsOf f0.type = 1) ∧ f1.type = 9 ∧ f2.type = 9 ∧ f3.type = 9 ∧ (Tryd.prog.underlying f4.type = some (.int .u8) ∧ Tryd.prog.cellsOf f4.type = 1) ∧ (Tryd.prog.underlying f5.type = some (.int .u8) ∧ Tryd.prog.cellsOf f5.type = 1) ∧ (Tryd.prog.underlying f6.type = some (.int .i64) ∧ Tryd.prog.cellsOf f6.type = 1) ∧ (Tryd.prog.underlying f7.type = some (.int .i64) ∧ Tryd.prog.cellsOf f7.type = 1) ∧ f8.type = 9 ∧ (Tryd.prog.underlying f9.type = some .bool ∧ Tryd.prog.cellsOf f9.type = 1) ∧ f10.type = 9 :=
  ⟨_, _, _, _, _, _, _, _, _, _, _, Tryd.underlying26, ⟨rfl, rfl, rfl, rfl, rfl, rfl, rfl, rfl, rfl, rfl, rfl⟩, ⟨by kernel_rfl, by kernel_rfl⟩, rfl, rfl, rfl, ⟨by kernel_rfl, by kernel_rfl⟩, ⟨by kernel_rfl, by kernel_rfl⟩, ⟨by kernel_rfl, by kernel_rfl⟩, ⟨by kernel_rfl, by kernel_rfl⟩, rfl, ⟨by kernel_rfl, by kernel_rfl⟩, rfl⟩
theorem wfu8 {z : Int} (h : (Lit.int .u8 z).wf = true) : 0 ≤ z ∧ z < 256 := by
  have h1 : IntKind.u8.min = 0 := rfl
  have h2 : IntKind.u8.max = 255 := rfl
  simp [Lit.wf, h1, h2] at h
  omega
theorem cRq : Tryd.prog.cellsOf 26 = 11 := by kernel_rfl
section
variable {H : Type} {enc : TypeId × Value → H} {W : World} {base b0 : Nat} {spare : Nat → Bool} {held : Bool} {r : Reach}
set_option maxRecDepth 100000 in
theorem openRq {ts : List TypeId} {ds : List (DataW H)} {j : Nat} {v : Value} {d : DataW H} {p : List MemPlace} (hv : Value.okWide Tryd.prog W r b0 26 v) (h : DataW.Trod enc Tryd.prog W base spare held 26 v d p)
    (hsz : (DataW.weightsEach Tryd.prog ts ds).all (· ≤ reachBytes) = true) (ht : ts[j]? = some 26) (hd : ds[j]? = some d) : ∃ z : Rq, v = rqV z ∧ z.small := by
  obtain ⟨f0, f1, f2, f3, f4, f5, f6, f7, f8, f9, f10, hs, ⟨o0, o1, o2, o3, o4, o5, o6, o7, o8, o9, o10⟩, ⟨u0, k0⟩, t1, t2, t3, ⟨u4, k4⟩, ⟨u5, k5⟩, ⟨u6, k6⟩, ⟨u7, k7⟩, t8, ⟨u9, k9⟩, t10⟩ := rqF
  obtain ⟨cs, rfl, hcs⟩ := okWide_struct hs hv
  obtain ⟨c0, c1, c2, c3, c4, c5, c6, c7, c8, c9, c10, rfl⟩ := array11 (hcs.trans cRq)
  obtain ⟨fuel, hf⟩ := h
  obtain ⟨xs, n, _, hx, hl, hlen, hxs⟩ := DataW.trod_struct hs hf
  obtain ⟨y0, y1, y2, y3, y4, y5, y6, y7, y8, y9, y10, rfl⟩ := list11 (show xs.length = 11 from hlen)
  have g0 := hxs 0 f0 rfl
  have g1 := hxs 1 f1 rfl
  have g2 := hxs 2 f2 rfl
  have g3 := hxs 3 f3 rfl
  have g4 := hxs 4 f4 rfl
  have g5 := hxs 5 f5 rfl
  have g6 := hxs 6 f6 rfl
  have g7 := hxs 7 f7 rfl
  have g8 := hxs 8 f8 rfl
  have g9 := hxs 9 f9 rfl
  have g10 := hxs 10 f10 rfl
  rw [t1] at g1
  rw [t2] at g2
  rw [t3] at g3
  rw [t8] at g8
  rw [t10] at g10
  simp [Value.cells, o0, k0] at g0
  simp [Value.cells, o1, cSt] at g1
  simp [Value.cells, o2, cSt] at g2
  simp [Value.cells, o3, cSt] at g3
  simp [Value.cells, o4, k4] at g4
  simp [Value.cells, o5, k5] at g5
  simp [Value.cells, o6, k6] at g6
  simp [Value.cells, o7, k7] at g7
  simp [Value.cells, o8, cSt] at g8
  simp [Value.cells, o9, k9] at g9
  simp [Value.cells, o10, cSt] at g10
  obtain ⟨z0, ez0, _, w0⟩ := DataW.trod_int u0 g0
  obtain rfl : c0 = .int .u8 z0 := by simpa using ez0
  obtain ⟨z4, ez4, _, w4⟩ := DataW.trod_int u4 g4
  obtain rfl : c4 = .int .u8 z4 := by simpa using ez4
  obtain ⟨z5, ez5, _, w5⟩ := DataW.trod_int u5 g5
  obtain rfl : c5 = .int .u8 z5 := by simpa using ez5
  obtain ⟨z6, ez6, _, w6⟩ := DataW.trod_int u6 g6
  obtain rfl : c6 = .int .i64 z6 := by simpa using ez6
  obtain ⟨z7, ez7, _, w7⟩ := DataW.trod_int u7 g7
  obtain rfl : c7 = .int .i64 z7 := by simpa using ez7
  obtain ⟨z9, ez9, _⟩ := DataW.trod_bool u9 g9
  obtain rfl : c9 = .bool z9 := by simpa using ez9
  obtain ⟨s1, rfl, e1⟩ := strOf g1
  obtain ⟨s2, rfl, e2⟩ := strOf g2
  obtain ⟨s3, rfl, e3⟩ := strOf g3
  obtain ⟨s8, rfl, e8⟩ := strOf g8
  obtain ⟨s10, rfl, e10⟩ := strOf g10
  have h0 := wfu8 w0
  have h4 := wfu8 w4
  have h5 := wfu8 w5
  obtain ⟨n0, rfl⟩ : ∃ k : Nat, z0 = k := ⟨z0.toNat, by omega⟩
  obtain ⟨n4, rfl⟩ : ∃ k : Nat, z4 = k := ⟨z4.toNat, by omega⟩
  obtain ⟨n5, rfl⟩ : ∃ k : Nat, z5 = k := ⟨z5.toNat, by omega⟩
  have hd2 : d = .agg [y0.1, y1.1, y2.1, y3.1, y4.1, y5.1, y6.1, y7.1, y8.1, y9.1, y10.1] := by simp only [Prod.mk.injEq] at hx; simpa using hx.1
  have hw : ∀ n ∈ d.weights Tryd.prog 26, n ≤ 140737488351232 := fun n hn => of_decide_eq_true (List.all_eq_true.1 hsz _ (DataW.weights_mem_each ht hd n hn))
  rw [hd2] at hw
  simp only [DataW.weights, hs] at hw
  simp only [DataW.weightsEach, List.map_cons, List.map_nil, t1, t2, t3, t8, t10, e1, e2, e3, e8, e10, DataW.weights, List.mem_append, List.mem_cons, List.mem_nil_iff, or_false] at hw
  exact ⟨⟨n0, s1, s2, s3, n4, n5, z6, z7, s8, z9, s10⟩, rfl, hw _ (by simp), hw _ (by simp), hw _ (by simp), hw _ (by simp), hw _ (by simp), by show n0 < 256; omega⟩
end
end Go.Proofs.YtmapinediglimaaDoor
