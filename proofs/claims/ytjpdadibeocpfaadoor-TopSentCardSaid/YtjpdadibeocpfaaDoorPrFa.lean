/-
  A parser gives up (xml.must), and Feed takes it up (its deferred closure where the frame panics). No condition.
-/
import Derived.Test.YtjpdadibeocpfaaDoorPrMa
import Derived.Test.YtjpdadibeocpfaaDoorPrNa
import Derived.Defers
import Derived.Recover
import Derived.Deep.RegionLaw
import Derived.Test.YtjpdadibeocpfaaDoorPrSt
import Derived.Test.YtjpdadibeocpfaaDoorPrFeed
namespace Go.Proofs.YtjpdadibeocpfaaDoor
set_option linter.unusedVariables false
set_option linter.unusedSimpArgs false
open Go.RowKit Go.MapKept Go.Proofs
/-- what a parser gives up with -/
abbrev faultV (e : Int) : Value := .iface 55 (.agg #[.int .i64 e])
abbrev fallC (e : Int) : Ending := .panicked [{ v := faultV e, recovered := false }]
theorem must_no (e : Int) (w : World) : Calls Tryd.prog 37 #[.bool false, .int .i64 e] w fun r w' => r = fallC e ∧ w = w' := by
  go_enter Tryd.func37, Tryd.ntmps37
  go_wp2
  exact ⟨rfl, rfl, rfl⟩
set_option maxRecDepth 100000 in
set_option maxHeartbeats 4000000 in
theorem feed1_caught (p B q : Nat) (e z : Int) (wv ov : Value) (qt : UInt8) (rt an : Bool) (w : World) (hp : w.cell? ⟨p, 0, none⟩ = some (.pointer (some ⟨B, 0, none⟩))) (hpl : p < w.heap.size) (ho : w.heap[B]? = some (PrObj wv qt ov rt an)) (hq : w.heap[q]? = some (.cells #[.int .i64 z] 26)) (hBq : B ≠ q) (hpq : p ≠ q) (hpB : p ≠ B) :
    CallsD Tryd.prog 17 #[.pointer (some ⟨p, 0, none⟩), .pointer (some ⟨q, 0, none⟩)] (.panicking [{ v := faultV e, recovered := false }]) w fun r u' w' => r = .returned (.tuple #[]) ∧ u' = .panicking [{ v := faultV e, recovered := true }] ∧
      w'.os = w.os ∧ w'.tape = w.tape ∧ w'.output = w.output ∧ w.heap.size ≤ w'.heap.size ∧ w'.heap[q]? = some (.cells #[.int .i64 e] 26) ∧ ∀ k, k ≠ B → k ≠ q → k < w.heap.size → w'.heap[k]? = w.heap[k]? := by
  refine callsD_of_wpS Tryd.func17 rfl fun c₀ cs hu => ?_
  apply wpS_seq
  apply wpS_region
  simp [wpOpsS, go_sem, recoverD, hu, Tryd.ntmps17, Exit.thenS]
  have hql : ∀ w, (binOp .eql 20 (faultV e) .nilIface).run Tryd.prog w = .ok (.bool false) w := fun w => by kernel_rfl
  have hta : ∀ w, (Instr.typeAssert (faultV e) 20 55 true).run Tryd.prog w = .ok (.tuple #[.agg #[.int .i64 e], .bool true]) w := fun w => by kernel_rfl
  have ht : (#[.pointer (some ⟨p, 0, none⟩), .pointer (some ⟨q, 0, none⟩)] ++ (Array.replicate 16 undef).setIfInBounds 3 (faultV e) : Array Value) = #[.pointer (some ⟨p, 0, none⟩), .pointer (some ⟨q, 0, none⟩), undef, undef, undef, faultV e, undef, undef, undef, undef, undef, undef, undef, undef, undef, undef, undef, undef] := rfl
  rw [ht]
  refine wpS_of_wp ?_
  obtain ⟨c0, c1, c2, c3, c4, c5, hfz, hBl⟩ := pr_cells ho
  obtain ⟨qc, qf, ql⟩ := obj_cells hq
  have d0 : w.cell? ⟨q, 0, none⟩ = some (.int .i64 z) := (qc 0).trans rfl
  have f0 := qf 0
  clear qc qf
  have hpl1 : p < w.heap.size + 1 := by omega
  have hBl1 : B < w.heap.size + 1 := by omega
  have ql1 : q < w.heap.size + 1 := by omega
  go_wp2
  clear hql hta ht
  have fin1 := Lib.hid (show ∀ o : Obj, let w' := (((w.setCell ⟨B, 5, none⟩ (.int .i64 e)).setCell ⟨q, 0, none⟩ (.int .i64 e)).alloc o).drew
      w'.os = w.os ∧ w'.tape = w.tape ∧ w'.output = w.output ∧ w.heap.size ≤ w'.heap.size ∧ w'.heap[q]? = some (.cells #[.int .i64 e] 26) ∧ ∀ k, k ≠ B → k ≠ q → k < w.heap.size → w'.heap[k]? = w.heap[k]? from fun o => by
    refine ⟨rfl, rfl, rfl, ?_, ?_, fun k h1 h2 h3 => ?_⟩
    · show w.heap.size ≤ (((w.setCell ⟨B, 5, none⟩ (.int .i64 e)).setCell ⟨q, 0, none⟩ (.int .i64 e)).alloc o).heap.size
      rw [World.size_alloc, World.size_setCell, World.size_setCell]; omega
    · exact obj_alloc (obj_set (i := 0) ((Below.heap_setCell w ⟨B, 5, none⟩ (.int .i64 e) q (by show q ≠ B; omega)).trans hq) (.int .i64 e))
    · exact (Below.heap_alloc ((w.setCell ⟨B, 5, none⟩ (.int .i64 e)).setCell ⟨q, 0, none⟩ (.int .i64 e)) o k (by rw [World.size_setCell, World.size_setCell]; exact h3)).trans ((Below.heap_setCell _ _ _ _ (by show k ≠ q; exact h2)).trans (Below.heap_setCell _ _ _ _ (by show k ≠ B; exact h1))))
  have fin2 := Lib.hid (show ∀ o : Obj, let w' := (((w.setCell ⟨q, 0, none⟩ (.int .i64 e)).setCell ⟨B, 5, none⟩ (.int .i64 e)).alloc o).drew
      w'.os = w.os ∧ w'.tape = w.tape ∧ w'.output = w.output ∧ w.heap.size ≤ w'.heap.size ∧ w'.heap[q]? = some (.cells #[.int .i64 e] 26) ∧ ∀ k, k ≠ B → k ≠ q → k < w.heap.size → w'.heap[k]? = w.heap[k]? from fun o => by
    refine ⟨rfl, rfl, rfl, ?_, ?_, fun k h1 h2 h3 => ?_⟩
    · show w.heap.size ≤ (((w.setCell ⟨q, 0, none⟩ (.int .i64 e)).setCell ⟨B, 5, none⟩ (.int .i64 e)).alloc o).heap.size
      rw [World.size_alloc, World.size_setCell, World.size_setCell]; omega
    · exact obj_alloc ((Below.heap_setCell _ ⟨B, 5, none⟩ (.int .i64 e) q (by show q ≠ B; omega)).trans (obj_set (i := 0) hq (.int .i64 e)))
    · exact (Below.heap_alloc ((w.setCell ⟨q, 0, none⟩ (.int .i64 e)).setCell ⟨B, 5, none⟩ (.int .i64 e)) o k (by rw [World.size_setCell, World.size_setCell]; exact h3)).trans ((Below.heap_setCell _ _ _ _ (by show k ≠ B; exact h1)).trans (Below.heap_setCell _ _ _ _ (by show k ≠ q; exact h2))))
  go_region_law (fail)
  all_goals first
    | exact ⟨rfl, _, rfl, _, results_none rfl _ _ _, rfl, rfl, fin1.out _⟩
    | exact ⟨rfl, _, rfl, _, results_none rfl _ _ _, rfl, rfl, fin2.out _⟩
end Go.Proofs.YtjpdadibeocpfaaDoor
/-
  A byte at which the parser gives up (xml.take, tag, begin). Conditions: the parser lies at B; a piece too long, or an element behind the root's end.
-/
namespace Go.Proofs.YtjpdadibeocpfaaDoor
set_option linter.unusedVariables false
set_option linter.unusedSimpArgs false
open Go.RowKit Go.MapKept Go.Proofs
variable {K : Nat → Prop}
theorem cutsuf_nm (n : List UInt8) (W : World) (hn : nameP n = true) : Calls Tryd.prog 67 #[.string ⟨n.toArray⟩, .string ⟨#[47]⟩] W fun e w' => e = .returned (.tuple #[.string ⟨n.toArray⟩, .bool false]) ∧ W = w' := by
  have := cutsuf_no n [] W hn (by have := nameP_len hn; simp [atsL]; omega)
  rwa [show n ++ atsL [] = n by simp [atsL]] at this
set_option maxRecDepth 100000 in
set_option maxHeartbeats 8000000 in
theorem xbegin_fall (n0 B : Nat) (n : List UInt8) (S : Ps) (w : World) (tv : Value) (hP : PsAt K n0 B w S) (hn : nameP n = true) (ho : S.op = []) (hrt : S.rt = true) :
    Calls Tryd.prog 54 #[.pointer (some ⟨B, 0, none⟩), .string ⟨n.toArray⟩, tv] w fun e w' => e = fallC 6 ∧ Below w.heap.size w w' := by
  have cSf := Lib.hid (fun W => cutsuf_nm n W hn)
  have cNm := Lib.hid (fun W => xname_all n W hn)
  replace hP := Lib.hid hP
  go_enter Tryd.func54, Tryd.ntmps54
  go_wp2_with (first
    | (go_at_call 67; refine (cSf.out _).mono ?_; rintro e w1 ⟨rfl, rfl⟩)
    | (go_at_call 53; refine (cNm.out _).mono ?_; rintro e w1 ⟨rfl, k1, rfl⟩))
  go_loopw [8] (fun s8 wr => s8 = .string ⟨#[]⟩ ∧ wr = w.drewN k1) (fun s8 _ => 0)
  case atStart => exact ⟨rfl, rfl⟩
  case round =>
    obtain ⟨rfl, rfl⟩ := hrel
    go_upto_region 9 with (go_at_call 51; refine (space_nil _).mono ?_; rintro e w2 ⟨rfl, hb2⟩; replace hb2 := Lib.hid (belowT (belowN (Below.refl _ _) k1) hb2))
    have hP2 := hP.out.below hb2.out
    obtain ⟨hBn, wv, ov, an, hobj, hOww, hOo, hKw⟩ := id hP2
    obtain ⟨c0, c1, c2, c3, c4, c5, hfz, hBl⟩ := pr_cells hobj
    rw [ho] at hOo
    rw [hrt] at c3
    obtain ⟨oa, oc, rfl⟩ := owns_val hOo
    replace hobj := Lib.hid hobj
    replace hOww := Lib.hid hOww
    replace hOo := Lib.hid hOo
    replace hKw := Lib.hid hKw
    replace hP2 := Lib.hid hP2
    go_wp2_with (go_at_call 37; refine (must_no 6 _).mono ?_; rintro e w3 ⟨rfl, rfl⟩)
    exact ⟨rfl, rfl, hb2.out⟩
set_option maxRecDepth 100000 in
set_option maxHeartbeats 8000000 in
theorem xtag_fall (c : UInt8) (r : List UInt8) (w : World) (pv tv : Value) (k : Int) (hc : nameC c = true) (hl : r.length ≤ 100000) (hch : charsP (60 :: (c :: r ++ [62])) = true) (R : World → Prop)
    (hC : ∀ w1, Below w.heap.size w w1 → Calls Tryd.prog 54 #[pv, .string ⟨(c :: r).toArray⟩, tv] w1 fun e w' => e = fallC k ∧ R w') :
    Calls Tryd.prog 38 #[pv, .string ⟨(60 :: (c :: r ++ [62])).toArray⟩, tv] w fun e w' => e = fallC k ∧ R w' := by
  have hCh : Hid (Calls Tryd.prog 31 #[.string ⟨(60 :: (c :: r ++ [62])).toArray⟩] w fun e w' => e = .returned (.bool true) ∧ Below w.heap.size w w') := Lib.hid (by
    have := textChars_any (60 :: (c :: r ++ [62])) w (by simp; omega)
    rwa [hch] at this)
  obtain ⟨-, -, -, -, -, -, n47, n33, n63, -⟩ := nameC_ne hc
  have cA := Lib.hid (fun W => cutp_no c 63 r [120, 109, 108] W n63)
  have cB := Lib.hid (fun W => hasp_no c 33 r W n33)
  have cC := Lib.hid (fun W => hasp_no c 63 r W n63)
  have cD := Lib.hid (fun W => cutp_no c 47 r [] W n47)
  have x1 : (ByteArray.mk (60 :: (c :: r ++ [62])).toArray).extract 1 ((60 :: (c :: r ++ [62])).length - 1) = ⟨(c :: r).toArray⟩ := by
    rw [ByteArray.extract_mk]; simp
  have hT2 : 3 ≤ (60 :: (c :: r ++ [62])).length ∧ (60 :: (c :: r ++ [62])).length ≤ 200000 := by simp; omega
  replace hch := Lib.hid hch
  replace hC := Lib.hid hC
  clear hc n47 n33 n63
  generalize 60 :: (c :: r ++ [62]) = T at hCh x1 hT2 ⊢
  generalize c :: r = I at cA cB cC cD x1 hC
  obtain ⟨hT3, hT4⟩ := hT2
  have q2 : ((T.length : Int) - 1).toNat = T.length - 1 := by omega
  have q3 : (1 : Int) ≤ (T.length : Int) - 1 := by omega
  have q4 : (T.length : Int) - 1 ≤ (T.length : Int) := by omega
  have q5 : (0 : Int) ≤ (T.length : Int) - 1 := by omega
  go_enter Tryd.func38, Tryd.ntmps38
  go_wp2_with (first
    | (go_at_call 31; refine hCh.out.mono ?_; rintro e w1 ⟨rfl, hb1⟩; replace hb1 := Lib.hid hb1)
    | (go_at_call 37; refine (must_ok 6 _).mono ?_; rintro e w3 ⟨rfl, rfl⟩; have mM := Lib.hid True.intro)
    | (go_at_call 37; refine (must_ok 7 _).mono ?_; rintro e w3 ⟨rfl, rfl⟩)
    | (have mA := mB; clear mA; go_at_call 50; refine (cD.out _).mono ?_; rintro e w4 ⟨rfl, rfl⟩)
    | (go_at_call 50; refine (cA.out _).mono ?_; rintro e w4 ⟨rfl, rfl⟩)
    | (have mA := mC; clear mA; go_at_call 46; refine (cC.out _).mono ?_; rintro e w4 ⟨rfl, rfl⟩; have mB := Lib.hid True.intro)
    | (go_at_call 46; refine (cB.out _).mono ?_; rintro e w4 ⟨rfl, rfl⟩; have mC := Lib.hid True.intro)
    | (go_at_call 54; refine (hC.out _ hb1.out).mono ?_; rintro e w5 ⟨rfl, hR⟩))
  exact ⟨rfl, rfl, hR⟩
/-- at this byte the parser gives up -/
def FailR (S : Ps) (c : UInt8) (k : Int) : Prop :=
  (StepR S c none ∧ k = 5) ∨ (∃ n, S.w = 60 :: n ∧ nameP n = true ∧ c = 62 ∧ S.q = 0 ∧ S.op = [] ∧ S.rt = true ∧ k = 6)
set_option maxRecDepth 100000 in
set_option maxHeartbeats 8000000 in
theorem xtake_fall (n0 n1 B O : Nat) (c : UInt8) (S : Ps) (k : Int) (l : List Tk) (w : World) (hP : PsAt K n0 B w S) (hO : OutAt n1 O w l) (hne : O ≠ B) (h0 : n1 ≤ w.heap.size) (h01 : n0 ≤ n1) (hK : ∀ k, K k → k < n1) (hS : FailR S c k) (hw : S.w.length ≤ 2048) (hl : l.length ≤ 800) :
    Calls Tryd.prog 19 #[.pointer (some ⟨B, 0, none⟩), .int .u8 (c.toNat : Int), .func (.func 18) #[] #[.pointer (some ⟨O, 0, none⟩)]] w fun e w' => e = fallC k ∧ (∃ wv q ov rt an, w'.heap[B]? = some (PrObj wv q ov rt an)) ∧ OutAt n1 O w' l ∧ StepK K B O w w' := by
  have hC : c ≠ 60 ∧ ((∃ x r, S.w ++ [c] = x :: r ∧ x ≠ 60 ∧ 512 < S.w.length + 1 ∧ k = 5) ∨ (∃ r, S.w ++ [c] = 60 :: r ∧ 2048 < S.w.length + 1 ∧ k = 5) ∨ (∃ n, S.w ++ [c] = 60 :: (n ++ [62]) ∧ c = 62 ∧ nameP n = true ∧ S.w.length + 1 ≤ 2048 ∧ S.q = 0 ∧ S.op = [] ∧ S.rt = true ∧ k = 6)) := by
    rcases hS with ⟨h, rfl⟩ | ⟨n, h1, h2, h3, h4, h5, h6, rfl⟩
    · cases h with
      | txtL c hq hc hh hl =>
        refine ⟨hc, .inl ?_⟩
        cases hw : S.w with
        | nil => exact ⟨c, [], rfl, hc, by rw [hw] at hl; exact hl, rfl⟩
        | cons x r => exact ⟨x, r ++ [c], rfl, fun e => hh (by rw [hw, e]; rfl), by rw [hw] at hl; exact hl, rfl⟩
      | tagL c b hw h60 hl => exact ⟨h60, .inr (.inl ⟨b ++ [c], by rw [hw]; rfl, hl, rfl⟩)⟩
    · refine ⟨by rw [h3]; decide, .inr (.inr ⟨n, by rw [h1, h3]; rfl, h3, h2, ?_, h4, h5, h6, rfl⟩)⟩
      have := nameP_len h2
      rw [h1, List.length_cons]; omega
  obtain ⟨hc60, hC⟩ := hC
  have hP0 := Lib.hid hP
  obtain ⟨wv1, ov1, an1, g5, c5', wb, hobj1, ⟨a0, c0', rfl⟩, hr, hob, hBb, hfb, hcb, ho2, hO2, hP2, hOut2, hSt2⟩ := push_facts n0 n1 B O w S c l hP hO hne (by omega) h01 hK (by omega)
  obtain ⟨d0, d1, d2, d3, d4, d5, dfz, dBl⟩ := pr_cells hobj1
  have hOw : w.ownsRow n0 5 1 (.slice a0 S.w.length c0') S.w.length (Lib.byteCells S.w) := by
    obtain ⟨-, wv, ov, an, h2, h3, -⟩ := hP
    obtain rfl : wv = .slice a0 S.w.length c0' := by have := ((obj_cells h2).1 0).symm.trans d0; simpa using this
    exact h3
  have hc0 := u8ne hc60
  simp only [show (((60 : UInt8).toNat : Nat) : Int) = 60 from rfl] at hc0
  clear hP hS hc60
  replace hO := Lib.hid hO
  replace hSt2 := Lib.hid hSt2
  replace hr := Lib.hid hr
  replace ho2 := Lib.hid ho2
  replace hO2 := Lib.hid hO2
  replace hP2 := Lib.hid hP2
  replace hOut2 := Lib.hid hOut2
  replace hob := Lib.hid hob
  replace hobj1 := Lib.hid hobj1
  go_enter Tryd.func19, Tryd.ntmps19
  go_upto_region 0 with (fail)
  go_cut [6] (fun v6 W => w = W ∧ ∃ b : Bool, v6 = .bool b)
  case first =>
    obtain ⟨M, hM⟩ : ∃ M, M = S.w.length := ⟨_, rfl⟩
    rw [← hM] at d0
    cases hSw : S.w with
    | nil =>
      obtain rfl : M = 0 := by rw [hM, hSw]; rfl
      clear hM
      go_wp2_with fail
      go_meet
      exact ⟨rfl, _, rfl⟩
    | cons x r =>
      obtain ⟨m, rfl⟩ : ∃ m, M = m + 1 := ⟨r.length, by rw [hM, hSw]; rfl⟩
      obtain ⟨g, cp, hv, -, hgl⟩ := owns_head hOw (by rw [hSw]; simp)
      obtain ⟨e1, -, e3⟩ := Value.slice.inj hv
      subst e1 e3
      have h5 := byte_cell hOw x r hSw
      have q0 : (0 : Int) < (m : Int) + 1 := by omega
      replace hM := Lib.hid hM
      replace hSw := Lib.hid hSw
      go_wp2_with fail
      go_meet
      exact ⟨rfl, _, rfl⟩
  obtain ⟨rfl, b6, rfl⟩ := hcut
  clear hOw
  go_upto_region 4 with (fail)
  go_cut [51] (fun _ W => wb.setCell ⟨B, 0, none⟩ (.slice (some ⟨g5, 0, none⟩) (S.w.length + 1) c5') = W)
  case first =>
    go_wp2_with (at_builtin; refine wpList_app_runP _ wb rfl _ _ 22 rfl _ _ _ rfl rfl hr.out ?_)
    go_meet
    rfl
  clear d0 d1 d2 d3 d4 d5 dfz dBl hr hcb hfb hBb hob
  generalize wb.setCell ⟨B, 0, none⟩ (.slice (some ⟨g5, 0, none⟩) (S.w.length + 1) c5') = W2 at hcut ho2 hO2 hP2 hOut2 hSt2
  subst hcut
  have hs2 := hSt2.out.size
  obtain ⟨e0, e1, e2, e3, e4, e5, efz, eBl⟩ := pr_cells ho2.out
  have hg5l := (hO2.out.lt g5 rfl).2
  rcases hC with ⟨x, r, hx, hx60, hgt, rfl⟩ | ⟨r, hx, hgt, rfl⟩ | ⟨n, hx, rfl, hn, hle, hq, hop, hrt, rfl⟩
  · have hb := byte_cell hO2.out x r hx
    have hx6 : ((x.toNat : Int) != 60) = true := by
      have := u8ne hx60
      simp only [show (((60 : UInt8).toNat : Nat) : Int) = 60 from rfl] at this
      rw [bne, this]; rfl
    replace hx := Lib.hid hx
    replace hx60 := Lib.hid hx60
    have h5 : ¬ (S.w.length : Int) + 1 ≤ 512 := by omega
    clear hgt
    go_wp2_with (go_at_call 37; refine (must_no 5 _).mono ?_; rintro e w3 ⟨rfl, rfl⟩)
    exact ⟨rfl, rfl, ⟨_, _, _, _, _, ho2.out⟩, hOut2.out, hSt2.out⟩
  · have hb := byte_cell hO2.out 60 r hx
    replace hx := Lib.hid hx
    have h5 : ¬ (S.w.length : Int) + 1 ≤ 2048 := by omega
    clear hgt
    go_wp2_with (go_at_call 37; refine (must_no 5 _).mono ?_; rintro e w3 ⟨rfl, rfl⟩)
    exact ⟨rfl, rfl, ⟨_, _, _, _, _, ho2.out⟩, hOut2.out, hSt2.out⟩
  · have hb := byte_cell hO2.out 60 _ hx
    have h5 : (S.w.length : Int) + 1 ≤ 2048 := by omega
    rw [hq] at e1
    replace e1 : W2.cell? ⟨B, 1, none⟩ = some (.int .u8 0) := e1
    have hPc := piece_any n0 B _ W2 hP2.out
    simp only [hx] at hPc
    have hBn := hP2.out.1
    obtain ⟨a, r, rfl, ha⟩ : ∃ a r, n = a :: r ∧ nameC a = true := by
      cases n with
      | nil => exact absurd rfl (name_bytes hn).1
      | cons a r => exact ⟨a, r, rfl, name_all hn a (by simp)⟩
    have hnl := nameP_len hn
    have hch := (body_facts (p := Pc.beg (a :: r) []) ⟨hn, rfl⟩ rfl).2.2
    rw [show (Pc.beg (a :: r) []).text = 60 :: (a :: r ++ [62]) by simp [Pc.text, atsL]] at hch
    replace hPc := Lib.hid hPc
    replace hx := Lib.hid hx
    replace hch := Lib.hid hch
    clear hle
    go_wp2_with (first
      | (go_at_call 37; refine (must_ok 5 _).mono ?_; rintro e w3 ⟨rfl, rfl⟩)
      | (go_at_call 36; refine hPc.out.mono ?_; rintro e w4 ⟨rfl, hw4, hP4⟩
         have hO4 : OutAt n1 O w4 l := by
           rw [hw4]
           exact hOut2.out.keep (by rw [World.size_setCell]; exact Nat.le_refl _) (fun k hk hk2 => Below.heap_setCell _ _ _ _ (by rcases hk2 with h | h <;> (simp; omega)))
         have hS4 : StepK K B O w w4 := by rw [hw4]; exact hSt2.out.trans (Step2.k (Step2.setB _) hK)
         have ho4 : ∃ wv q ov rt an, w4.heap[B]? = some (PrObj wv q ov rt an) := by
           obtain ⟨-, wv, ov, an, h, -⟩ := hP4
           exact ⟨_, _, _, _, _, h⟩
         have hTg := Lib.hid (xtag_fall a r w4 (.pointer (some ⟨B, 0, none⟩)) (.func (.func 18) #[] #[.pointer (some ⟨O, 0, none⟩)]) 6 ha (by simp at hnl; omega) hch.out (fun w' => Below w4.heap.size w4 w') (fun w1 hb => (xbegin_fall n0 B (a :: r) _ w1 _ (hP4.below hb) hn hop hrt).mono fun e w' ⟨h1, h2⟩ => ⟨h1, belowT hb h2⟩))
         clear hw4 hP4 hPc
         replace hS4 := Lib.hid hS4; replace hO4 := Lib.hid hO4; replace ho4 := Lib.hid ho4)
      | (go_at_call 38; refine hTg.out.mono ?_; rintro e w5 ⟨rfl, hb5⟩; replace hb5 := Lib.hid hb5))
    obtain ⟨wv5, q5, ov5, rt5, an5, ho5⟩ := ho4.out
    exact ⟨rfl, rfl, ⟨wv5, q5, ov5, rt5, an5, obj_belowP ho5 hb5.out⟩, hO4.out.below hb5.out, hS4.out.trans (Step2.k (Step2.below hb5.out) hK)⟩
end Go.Proofs.YtjpdadibeocpfaaDoor
/-
  Bytes are read up to one at which the parser gives up (xml.Feed). Conditions: the parser lies at B; the bytes ahead of it go through (Tr); it falls (FailR).
-/
namespace Go.Proofs.YtjpdadibeocpfaaDoor
set_option linter.unusedVariables false
set_option linter.unusedSimpArgs false
open Go.RowKit Go.MapKept Go.Proofs
set_option maxRecDepth 100000 in
set_option maxHeartbeats 8000000 in
theorem xfeed_fall (n0 B gb cap : Nat) (s1 s2 s : List UInt8) (c : UInt8) (k : Int) (S S' : Ps) (out : List Tk) (w : World) (hP : PsAt (fun _ => False) n0 B w S) (h0 : n0 ≤ w.heap.size) (hT : Tr S s1 S' out) (hF : FailR S' c k) (hse : s = s1 ++ c :: s2) (hw : S.w.length ≤ 2048) (hlen : out.length ≤ 800)
    (hgb : gb ≠ B) (hgl : gb < w.heap.size) (hgw : ∀ wv, w.cell? ⟨B, 0, none⟩ = some wv → some gb ≠ wv.ownBlock) (hb : ∀ j (h : j < s.length), w.cell? ⟨gb, j, none⟩ = some (.int .u8 ((s[j]'h).toNat : Int))) (hm : s.length ≤ 140737488351232) :
    Calls Tryd.prog 7 #[.pointer (some ⟨B, 0, none⟩), .slice (some ⟨gb, 0, none⟩) s.length cap] w fun e w' => ∃ v, e = .returned (.tuple #[v, .int .i64 k]) ∧ FeedK B w w' := by
  have hsl : s1.length < s.length := by rw [hse]; simp
  have hsi : ∀ i (h : i < s1.length), s[i]'(by omega) = s1[i]'h := fun i h => by simp only [hse]; rw [List.getElem_append_left h]
  have hsc : s[s1.length]'hsl = c := by simp only [hse]; rw [List.getElem_append_right (Nat.le_refl _)]; simp
  replace hse := Lib.hid hse
  replace hsi := Lib.hid hsi
  replace hsc := Lib.hid hsc
  replace hF := Lib.hid hF
  have hmf : ∀ (fn : Fn) (first cap : Array Value) (w : World), (Instr.makeFunc fn first cap).run Tryd.prog w = .ok (.func fn first cap) w := fun _ _ _ _ => rfl
  obtain ⟨K, hKd⟩ : ∃ K : Nat → Prop, K = fun k => k < w.heap.size + 3 ∧ ∀ wv, w.cell? ⟨B, 0, none⟩ = some wv → some k ≠ wv.ownBlock := ⟨_, rfl⟩
  have hPK : PsAt K n0 B w S := by
    obtain ⟨h1, wv, ov, an, h2, h3, h4, h5⟩ := hP
    refine ⟨h1, wv, ov, an, h2, h3, h4, fun r hr hk => ?_⟩
    rw [hKd] at hk
    exact hk.2 wv (((obj_cells h2).1 0).trans rfl) hr.symm
  obtain ⟨hBn, wv, ov, an, hobj, -, -⟩ := id hPK
  obtain ⟨c0, c1, c2, c3, c4, c5, hfz, hBl⟩ := pr_cells hobj
  replace hP := Lib.hid hP
  replace hPK := Lib.hid hPK
  replace hb := Lib.hid hb
  replace hT := Lib.hid hT
  replace hgw := Lib.hid hgw
  replace hobj := Lib.hid hobj
  replace hKd := Lib.hid hKd
  have hBl1 : B < w.heap.size + 1 := by omega
  have hBl2 : B < w.heap.size + 1 + 1 := by omega
  go_enter_defers Tryd.func7, Tryd.ntmps7
  go_wp2_with fail
  obtain ⟨W0, hW0⟩ : ∃ W0, W0 = (((w.alloc (.cells #[.pointer (some ⟨B, 0, none⟩)] 23)).alloc (.cells #[.slice none 0 0] 25)).alloc (.cells #[.int .i64 0] 26)) := ⟨_, rfl⟩
  rw [← hW0]
  have hs0 : W0.heap.size = w.heap.size + 3 := by rw [hW0]; simp [World.size_alloc]
  have hB0 : Below w.heap.size w W0 := by rw [hW0]; exact belowT (belowT (below1 _ _) (below1 _ _)) (below1 _ _)
  have hx0 : W0.heap[w.heap.size]? = some (.cells #[.pointer (some ⟨B, 0, none⟩)] 23) := by
    rw [hW0]; exact obj_alloc (obj_alloc (heap_alloc _ _).1)
  have hx1 : W0.heap[w.heap.size + 1]? = some (.cells #[.slice none 0 0] 25) := by
    have := heap_alloc (w.alloc (.cells #[.pointer (some ⟨B, 0, none⟩)] 23)) (.cells #[.slice none 0 0] 25)
    rw [World.size_alloc] at this
    rw [hW0]; exact obj_alloc this.1
  have hx2 : W0.heap[w.heap.size + 1 + 1]? = some (.cells #[.int .i64 0] 26) := by
    have := heap_alloc ((w.alloc (.cells #[.pointer (some ⟨B, 0, none⟩)] 23)).alloc (.cells #[.slice none 0 0] 25)) (.cells #[.int .i64 0] 26)
    rw [World.size_alloc, World.size_alloc] at this
    rw [hW0]; exact this.1
  have hKnew : ∀ k, w.heap.size ≤ k → k < w.heap.size + 3 → K k := fun k h1 h2 => by
    rw [hKd.out]
    refine ⟨h2, fun wv' hv e => ?_⟩
    obtain ⟨-, wv2, ov2, an2, ho2, hOw2, -⟩ := hP.out
    obtain rfl : wv' = wv2 := by
      have := hv.symm.trans (((obj_cells ho2).1 0).trans rfl)
      simpa using this
    have := (hOw2.lt k e.symm).2
    omega
  have hKgb : K gb := by rw [hKd.out]; exact ⟨by omega, hgw.out⟩
  have hKlt : ∀ k, K k → k < w.heap.size + 3 := fun k hk => by rw [hKd.out] at hk; exact hk.1
  have hP0 : PsAt K n0 B W0 S := hPK.out.below hB0
  have hO0 : OutAt (w.heap.size + 3) (w.heap.size + 1) W0 [] := ⟨by omega, _, hx1, tkO_nil _ _⟩
  have hbx0 := ((obj_cells hx0).1 0).trans rfl
  have hcb0 : ∀ j (h : j < s.length), W0.cell? ⟨gb, j, none⟩ = some (.int .u8 ((s[j]'h).toNat : Int)) := fun j h => (hB0.cell (p := ⟨gb, j, none⟩) hgl).trans (hb.out j h)
  replace hW0 := Lib.hid hW0
  replace hB0 := Lib.hid hB0
  replace hx0 := Lib.hid hx0
  replace hx1 := Lib.hid hx1
  replace hx2 := Lib.hid hx2
  replace hKnew := Lib.hid hKnew
  replace hKgb := Lib.hid hKgb
  replace hKlt := Lib.hid hKlt
  replace hP0 := Lib.hid hP0
  replace hO0 := Lib.hid hO0
  replace hbx0 := Lib.hid hbx0
  replace hcb0 := Lib.hid hcb0
  replace hs0 := Lib.hid hs0
  clear c0 c1 c2 c3 c4 c5 hfz hBl1 hBl2
  go_loopw [24] (fun s24 wr => ∃ (i : Nat) (S1 : Ps) (o1 o2 : List Tk), i ≤ s1.length ∧ s24 = .int .i64 i ∧ Hid (Tr S1 (s1.drop i) S' o2) ∧ Hid (out = o1 ++ o2) ∧ S1.w.length ≤ 2048 ∧ Hid (PsAt K n0 B wr S1) ∧ Hid (OutAt (w.heap.size + 3) (w.heap.size + 1) wr o1) ∧ Hid (StepK K B (w.heap.size + 1) W0 wr)) (fun s24 _ => s1.length - (intOf s24).toNat)
  case atStart => exact ⟨0, S, [], out, by omega, rfl, Lib.hid (by rw [List.drop_zero]; exact hT.out), Lib.hid rfl, hw, hP0, hO0, Lib.hid (StepK.refl _ _ _ _)⟩
  case round =>
    obtain ⟨i, S1, o1, o2, hi, rfl, hTr, hoe, hw1, hPr, hOr, hSr⟩ := hrel
    have hsr := hSr.out.size
    rw [hs0.out] at hsr
    by_cases hlt : i < s1.length
    · have hlt' : i < s.length := by omega
      have hii : (i : Int) < (s.length : Int) := by omega
      have hcell : wr.cell? ⟨gb, i, none⟩ = some (.int .u8 ((s[i]'hlt').toNat : Int)) := (World.cell?_of_block (a := ⟨gb, i, none⟩) (hSr.out.block gb hKgb.out hgb (by omega) (by rw [hs0.out]; omega))).trans (hcb0.out i hlt')
      have hbox : wr.cell? ⟨w.heap.size, 0, none⟩ = some (.pointer (some ⟨B, 0, none⟩)) := (World.cell?_of_block (a := ⟨w.heap.size, 0, none⟩) (hSr.out.block w.heap.size (hKnew.out _ (Nat.le_refl _) (by omega)) (by omega) (by omega) (by rw [hs0.out]; omega))).trans hbx0.out
      rw [hsi.out i hlt] at hcell
      have hzl : w.heap.size < wr.heap.size := by omega
      have hgl2 : gb < wr.heap.size := by omega
      rw [List.drop_eq_getElem_cons hlt] at hTr
      obtain ⟨S2, tk, o3, hst, hTr', rfl⟩ : ∃ S2 tk o3, StepR S1 (s1[i]'hlt) (some (S2, tk)) ∧ Tr S2 (s1.drop (i + 1)) S' o3 ∧ o2 = tk ++ o3 := by
        have := hTr.out
        generalize s1.drop (i + 1) = s' at this
        cases this with
        | cons h1 h2 => exact ⟨_, _, _, h1, h2, rfl⟩
      have hl1 : o1.length ≤ 800 := by have := congrArg List.length hoe.out; rw [List.length_append] at this; omega
      have hw2 := step_len hst
      have hTk := Lib.hid (xtake_any n0 (w.heap.size + 3) B (w.heap.size + 1) (s1[i]'hlt) S1 S2 o1 tk wr hPr.out hOr.out (by omega) (by omega) (by omega) hKlt.out hst hw1 hl1)
      generalize (s1[i]'hlt) = c at hcell hTk
      clear hst hTr
      replace hTr' := Lib.hid hTr'
      go_wp2_with (go_at_call 19; refine hTk.out.mono ?_; rintro e w2 ⟨rfl, hP2, hO2, hS2⟩; replace hP2 := Lib.hid hP2; replace hO2 := Lib.hid hO2; replace hS2 := Lib.hid hS2)
      go_roundw
      case rel => exact ⟨i + 1, S2, o1 ++ tk, o3, by omega, by go_num, hTr', Lib.hid (by rw [hoe.out, List.append_assoc]), hw2, hP2, hO2, Lib.hid (hSr.out.trans hS2.out)⟩
      case measure => simp [intOf]; omega
    · obtain rfl : i = s1.length := by omega
      have hend : S' = S1 ∧ o2 = [] := by
        have := hTr.out
        rw [List.drop_length] at this
        cases this; exact ⟨rfl, rfl⟩
      obtain ⟨rfl, rfl⟩ := hend
      have hii : (s1.length : Int) < (s.length : Int) := by omega
      have hcell : wr.cell? ⟨gb, s1.length, none⟩ = some (.int .u8 (c.toNat : Int)) := by
        have := (World.cell?_of_block (a := ⟨gb, s1.length, none⟩) (hSr.out.block gb hKgb.out hgb (by omega) (by rw [hs0.out]; omega))).trans (hcb0.out s1.length hsl)
        rwa [hsc.out] at this
      have hbox : wr.cell? ⟨w.heap.size, 0, none⟩ = some (.pointer (some ⟨B, 0, none⟩)) := (World.cell?_of_block (a := ⟨w.heap.size, 0, none⟩) (hSr.out.block w.heap.size (hKnew.out _ (Nat.le_refl _) (by omega)) (by omega) (by omega) (by rw [hs0.out]; omega))).trans hbx0.out
      have hzl : w.heap.size < wr.heap.size := by omega
      have hgl2 : gb < wr.heap.size := by omega
      have hl1 : o1.length ≤ 800 := by have := congrArg List.length hoe.out; rw [List.length_append] at this; omega
      have hTk := Lib.hid (xtake_fall n0 (w.heap.size + 3) B (w.heap.size + 1) c S' k o1 wr hPr.out hOr.out (by omega) (by omega) (by omega) hKlt.out hF.out hw1 hl1)
      go_wp2_with (go_at_call 19; refine hTk.out.mono ?_; rintro e w2 ⟨rfl, ⟨wv2, q2, ov2, rt2, an2, hob2⟩, hO2, hS2⟩
                   replace hob2 := Lib.hid hob2; replace hO2 := Lib.hid hO2; replace hS2 := Lib.hid (hSr.out.trans hS2))
      have hs2 := hS2.out.size
      rw [hs0.out] at hs2
      have hbox2 : w2.cell? ⟨w.heap.size, 0, none⟩ = some (.pointer (some ⟨B, 0, none⟩)) := (World.cell?_of_block (a := ⟨w.heap.size, 0, none⟩) (hS2.out.block w.heap.size (hKnew.out _ (Nat.le_refl _) (by omega)) (by omega) (by omega) (by rw [hs0.out]; omega))).trans hbx0.out
      have hoe2 := (hS2.out.block (w.heap.size + 1 + 1) (hKnew.out _ (by omega) (by omega)) (by omega) (by omega) (by rw [hs0.out]; omega)).trans hx2.out
      obtain ⟨hOn, v, hov, hTkO⟩ := hO2.out
      refine leaves_cons (f := 17) (args := #[.pointer (some ⟨w.heap.size, 0, none⟩), .pointer (some ⟨w.heap.size + 1 + 1, 0, none⟩)]) (by simp) (by simp [go_sem]) ?_
      refine (feed1_caught w.heap.size B (w.heap.size + 1 + 1) k 0 wv2 ov2 q2 rt2 an2 w2 hbox2 (by omega) hob2.out hoe2 (by omega) (by omega) (by omega)).mono ?_
      rintro e u' W9 ⟨rfl, rfl, y1, y2, y3, y4, y5, y6⟩
      have g0 : W9.cell? ⟨w.heap.size + 1, 0, none⟩ = some v := by
        have := (y6 (w.heap.size + 1) (by omega) (by omega) (by omega)).trans hov
        exact ((obj_cells this).1 0).trans rfl
      have g1 : W9.cell? ⟨w.heap.size + 1 + 1, 0, none⟩ = some (.int .i64 k) := ((obj_cells y5).1 0).trans rfl
      have hv1 : ∃ a9 k9 c9, v = .slice a9 k9 c9 := by
        obtain ⟨ps5, -, o5, -⟩ := hTkO
        obtain ⟨a9, c9, h⟩ := owns_val o5
        exact ⟨a9, _, c9, h⟩
      obtain ⟨a9, k9, c9, rfl⟩ := hv1
      simp [Leaves, settle, results, Tryd.results7, go_sem, g0, g1]
      refine ⟨y1.trans (hS2.out.os.trans hB0.out.os), y2.trans (hS2.out.tape.trans hB0.out.tape), y3.trans (hS2.out.output.trans hB0.out.output), by omega, ?_⟩
      intro wv' hv j hj hjB hne
      rw [y6 j hjB (by omega) (by omega), hS2.out.block j (by rw [hKd.out]; exact ⟨by omega, fun wv2 hv2 => by
        obtain rfl : wv2 = wv' := by have := hv2.symm.trans hv; simpa using this
        exact hne⟩) hjB (by omega) (by rw [hs0.out]; omega)]
      exact hB0.out.block j hj
end Go.Proofs.YtjpdadibeocpfaaDoor
