/-
  The name of a kind's element, and the types of a kind, by the program. No condition.
-/
import Derived.Test.YtjpdadibeocpfaaDoorStPuA
import Derived.Test.YtjpdadibeocpfaaDoorWrEl
import Derived.Deep.RegionHeld3
namespace Go.Proofs.YtjpdadibeocpfaaDoor
set_option linter.unusedVariables false
set_option linter.unusedSimpArgs false
open Go.RowKit Go.MapKept
theorem nm0 (w : World) : (Instr.index 102 (.agg #[.string ⟨#[]⟩, .string ⟨#[105, 113]⟩, .string ⟨#[109, 101, 115, 115, 97, 103, 101]⟩, .string ⟨#[112, 114, 101, 115, 101, 110, 99, 101]⟩]) (.int .u8 0)).run Tryd.prog w = .ok (.string ⟨#[]⟩) w := by kernel_rfl
theorem nm1 (w : World) : (Instr.index 102 (.agg #[.string ⟨#[]⟩, .string ⟨#[105, 113]⟩, .string ⟨#[109, 101, 115, 115, 97, 103, 101]⟩, .string ⟨#[112, 114, 101, 115, 101, 110, 99, 101]⟩]) (.int .u8 1)).run Tryd.prog w = .ok (.string ⟨#[105, 113]⟩) w := by kernel_rfl
theorem nm2 (w : World) : (Instr.index 102 (.agg #[.string ⟨#[]⟩, .string ⟨#[105, 113]⟩, .string ⟨#[109, 101, 115, 115, 97, 103, 101]⟩, .string ⟨#[112, 114, 101, 115, 101, 110, 99, 101]⟩]) (.int .u8 2)).run Tryd.prog w = .ok (.string ⟨#[109, 101, 115, 115, 97, 103, 101]⟩) w := by kernel_rfl
theorem nm3 (w : World) : (Instr.index 102 (.agg #[.string ⟨#[]⟩, .string ⟨#[105, 113]⟩, .string ⟨#[109, 101, 115, 115, 97, 103, 101]⟩, .string ⟨#[112, 114, 101, 115, 101, 110, 99, 101]⟩]) (.int .u8 3)).run Tryd.prog w = .ok (.string ⟨#[112, 114, 101, 115, 101, 110, 99, 101]⟩) w := by kernel_rfl
theorem nmB (w : World) : (Instr.build 102 #[(0, .string ⟨#[]⟩), (1, .string ⟨#[105, 113]⟩), (2, .string ⟨#[109, 101, 115, 115, 97, 103, 101]⟩), (3, .string ⟨#[112, 114, 101, 115, 101, 110, 99, 101]⟩)]).run Tryd.prog w = .ok (.agg #[.string ⟨#[]⟩, .string ⟨#[105, 113]⟩, .string ⟨#[109, 101, 115, 115, 97, 103, 101]⟩, .string ⟨#[112, 114, 101, 115, 101, 110, 99, 101]⟩]) w := by kernel_rfl
theorem nmM (k : Nat) (h : 3 ≤ k) (w : World) : (Builtin.min_ #[43, 43] 43 #[.int .u8 (k : Int), .int .u8 3]).run Tryd.prog w = .ok (.int .u8 3) w := by
  unfold Builtin.min_ Builtin.min2
  simp [go_sem]
  omega
theorem nmm0 (w : World) : (Builtin.min_ #[43, 43] 43 #[.int .u8 0, .int .u8 3]).run Tryd.prog w = .ok (.int .u8 0) w := by kernel_rfl
theorem nmm1 (w : World) : (Builtin.min_ #[43, 43] 43 #[.int .u8 1, .int .u8 3]).run Tryd.prog w = .ok (.int .u8 1) w := by kernel_rfl
theorem nmm2 (w : World) : (Builtin.min_ #[43, 43] 43 #[.int .u8 2, .int .u8 3]).run Tryd.prog w = .ok (.int .u8 2) w := by kernel_rfl
theorem stName_any (k : Nat) (w : World) :
    Calls Tryd.prog 33 #[.int .u8 k] w fun e w' => e = .returned (.string ⟨(nameK k).toArray⟩) ∧ w = w' := by
  by_cases h : 3 ≤ k
  · have hM := nmM k h
    have i3 := nm3
    have hB := nmB
    have e : nameK k = preL := by unfold nameK; rw [if_neg (by omega), if_neg (by omega), if_neg (by omega)]
    rw [e]
    clear e
    go_enter Tryd.func33, Tryd.ntmps33
    go_wp2
    go_ret
    exact ⟨rfl, rfl⟩
  · have m0 := nmm0
    have m1 := nmm1
    have m2 := nmm2
    obtain rfl | rfl | rfl : k = 0 ∨ k = 1 ∨ k = 2 := by omega
    all_goals have i0 := nm0
    all_goals have i1 := nm1
    all_goals have i2 := nm2
    all_goals have hB := nmB
    all_goals go_enter Tryd.func33, Tryd.ntmps33
    all_goals go_wp2
    all_goals go_ret
    all_goals exact ⟨rfl, rfl⟩
theorem typed_any (k : Nat) (t : List UInt8) (w : World) :
    Calls Tryd.prog 30 #[.int .u8 k, .string ⟨t.toArray⟩] w fun e w' => e = .returned (.bool (typedB k t)) ∧ w = w' := by
  by_cases h1 : k = 1
  · subst h1
    by_cases g0 : t = [103, 101, 116]
    · subst g0
      go_enter Tryd.func30, Tryd.ntmps30
      go_wp2
      all_goals go_ret
      all_goals exact ⟨by simp [typedB, resL, errL], rfl⟩
    have e0 : (t == [103, 101, 116]) = false := by simpa using g0
    by_cases g1 : t = [115, 101, 116]
    · subst g1
      go_enter Tryd.func30, Tryd.ntmps30
      go_wp2
      all_goals go_ret
      all_goals exact ⟨by simp [typedB, resL, errL], rfl⟩
    have e1 : (t == [115, 101, 116]) = false := by simpa using g1
    by_cases g2 : t = [114, 101, 115, 117, 108, 116]
    · subst g2
      go_enter Tryd.func30, Tryd.ntmps30
      go_wp2
      all_goals go_ret
      all_goals exact ⟨by simp [typedB, resL, errL], rfl⟩
    have e2 : (t == [114, 101, 115, 117, 108, 116]) = false := by simpa using g2
    by_cases g3 : t = [101, 114, 114, 111, 114]
    · subst g3
      go_enter Tryd.func30, Tryd.ntmps30
      go_wp2
      all_goals go_ret
      all_goals exact ⟨by simp [typedB, resL, errL], rfl⟩
    have e3 : (t == [101, 114, 114, 111, 114]) = false := by simpa using g3
    go_enter Tryd.func30, Tryd.ntmps30
    go_wp2
    all_goals go_ret
    all_goals exact ⟨by simp [typedB, resL, errL, *], rfl⟩
  by_cases h3 : k = 3
  · subst h3
    by_cases g0 : t = [117, 110, 97, 118, 97, 105, 108, 97, 98, 108, 101]
    · subst g0
      go_enter Tryd.func30, Tryd.ntmps30
      go_wp2
      all_goals go_ret
      all_goals exact ⟨by simp [typedB, resL, errL], rfl⟩
    have e0 : (t == [117, 110, 97, 118, 97, 105, 108, 97, 98, 108, 101]) = false := by simpa using g0
    by_cases g1 : t = [101, 114, 114, 111, 114]
    · subst g1
      go_enter Tryd.func30, Tryd.ntmps30
      go_wp2
      all_goals go_ret
      all_goals exact ⟨by simp [typedB, resL, errL], rfl⟩
    have e1 : (t == [101, 114, 114, 111, 114]) = false := by simpa using g1
    by_cases g2 : t = ([] : List UInt8)
    · subst g2
      go_enter Tryd.func30, Tryd.ntmps30
      go_wp2
      all_goals go_ret
      all_goals exact ⟨by simp [typedB, resL, errL], rfl⟩
    have e2 : (t == []) = false := by simpa using g2
    go_enter Tryd.func30, Tryd.ntmps30
    go_wp2
    all_goals go_ret
    all_goals exact ⟨by simp [typedB, resL, errL, *], rfl⟩
  by_cases h2 : k = 2
  · subst h2
    by_cases g0 : t = [99, 104, 97, 116]
    · subst g0
      go_enter Tryd.func30, Tryd.ntmps30
      go_wp2
      all_goals go_ret
      all_goals exact ⟨by simp [typedB, resL, errL], rfl⟩
    have e0 : (t == [99, 104, 97, 116]) = false := by simpa using g0
    by_cases g1 : t = [104, 101, 97, 100, 108, 105, 110, 101]
    · subst g1
      go_enter Tryd.func30, Tryd.ntmps30
      go_wp2
      all_goals go_ret
      all_goals exact ⟨by simp [typedB, resL, errL], rfl⟩
    have e1 : (t == [104, 101, 97, 100, 108, 105, 110, 101]) = false := by simpa using g1
    by_cases g2 : t = [101, 114, 114, 111, 114]
    · subst g2
      go_enter Tryd.func30, Tryd.ntmps30
      go_wp2
      all_goals go_ret
      all_goals exact ⟨by simp [typedB, resL, errL], rfl⟩
    have e2 : (t == [101, 114, 114, 111, 114]) = false := by simpa using g2
    by_cases g3 : t = ([] : List UInt8)
    · subst g3
      go_enter Tryd.func30, Tryd.ntmps30
      go_wp2
      all_goals go_ret
      all_goals exact ⟨by simp [typedB, resL, errL], rfl⟩
    have e3 : (t == []) = false := by simpa using g3
    go_enter Tryd.func30, Tryd.ntmps30
    go_wp2
    all_goals go_ret
    all_goals exact ⟨by simp [typedB, resL, errL, *], rfl⟩
  have e1 : ((k : Int) == 1) = false := by simpa using (by omega : ¬ (k : Int) = 1)
  have e3 : ((k : Int) == 3) = false := by simpa using (by omega : ¬ (k : Int) = 3)
  have e2 : ((k : Int) == 2) = false := by simpa using (by omega : ¬ (k : Int) = 2)
  have f1 : ¬ (k : Int) = 1 := by omega
  have f3 : ¬ (k : Int) = 3 := by omega
  have f2 : ¬ (k : Int) = 2 := by omega
  go_enter Tryd.func30, Tryd.ntmps30
  go_wp2
  all_goals go_ret
  all_goals exact ⟨by simp [typedB, *], rfl⟩
end Go.Proofs.YtjpdadibeocpfaaDoor
/-
  A stanza's tokens, by the program. Condition: at most 1000 tokens in the payload.
-/
namespace Go.Proofs.YtjpdadibeocpfaaDoor
set_option linter.unusedVariables false
set_option linter.unusedSimpArgs false
open Go.RowKit Go.MapKept
def allA (z : Sz) : Ats := [(tyL, z.ty), (frL, z.fr), (toL, z.tt), (idL, z.id)]
theorem ixA0 (a b c d e f g h : ByteArray) (w : World) : (Instr.index 97 (.agg #[.string a, .string b, .string c, .string d, .string e, .string f, .string g, .string h]) (.int .i64 0)).run Tryd.prog w = .ok (.agg #[.string a, .string b]) w := by kernel_rfl
theorem ixA1 (a b c d e f g h : ByteArray) (w : World) : (Instr.index 97 (.agg #[.string a, .string b, .string c, .string d, .string e, .string f, .string g, .string h]) (.int .i64 1)).run Tryd.prog w = .ok (.agg #[.string c, .string d]) w := by kernel_rfl
theorem ixA2 (a b c d e f g h : ByteArray) (w : World) : (Instr.index 97 (.agg #[.string a, .string b, .string c, .string d, .string e, .string f, .string g, .string h]) (.int .i64 2)).run Tryd.prog w = .ok (.agg #[.string e, .string f]) w := by kernel_rfl
theorem ixA3 (a b c d e f g h : ByteArray) (w : World) : (Instr.index 97 (.agg #[.string a, .string b, .string c, .string d, .string e, .string f, .string g, .string h]) (.int .i64 3)).run Tryd.prog w = .ok (.agg #[.string g, .string h]) w := by kernel_rfl
theorem bdA (a b c d e f g h : ByteArray) (w : World) : (Instr.build 97 #[(0, .agg #[.string a, .string b]), (1, .agg #[.string c, .string d]), (2, .agg #[.string e, .string f]), (3, .agg #[.string g, .string h])]).run Tryd.prog w = .ok (.agg #[.string a, .string b, .string c, .string d, .string e, .string f, .string g, .string h]) w := by kernel_rfl
theorem ixA (z : Sz) (k : Nat) (h : k < (allA z).length) (w : World) : (Instr.index 97 (.agg #[.string ⟨#[116, 121, 112, 101]⟩, .string ⟨z.ty.toArray⟩, .string ⟨#[102, 114, 111, 109]⟩, .string ⟨z.fr.toArray⟩, .string ⟨#[116, 111]⟩, .string ⟨z.tt.toArray⟩, .string ⟨#[105, 100]⟩, .string ⟨z.id.toArray⟩]) (.int .i64 k)).run Tryd.prog w = .ok (.agg #[.string ⟨((allA z)[k]'h).1.toArray⟩, .string ⟨((allA z)[k]'h).2.toArray⟩]) w := by
  have h4 : (allA z).length = 4 := rfl
  obtain rfl | rfl | rfl | rfl : k = 0 ∨ k = 1 ∨ k = 2 ∨ k = 3 := by omega
  · exact ixA0 _ _ _ _ _ _ _ _ w
  · exact ixA1 _ _ _ _ _ _ _ _ w
  · exact ixA2 _ _ _ _ _ _ _ _ w
  · exact ixA3 _ _ _ _ _ _ _ _ w
def fil (l : Ats) : Ats := l.filter fun p => !(p.2 == [])
theorem fil_snoc {l : Ats} {k : Nat} (h : k < l.length) : fil (l.take (k + 1)) = fil (l.take k) ++ (if (l[k]'h).2 = [] then [] else [l[k]'h]) := by
  unfold fil
  rw [List.take_add_one, List.getElem?_eq_getElem h, List.filter_append]
  congr 1
  simp [List.filter]
  cases (l[k]'h).2 <;> simp
theorem fil_len (l : Ats) (k : Nat) : (fil (l.take k)).length ≤ k := Nat.le_trans (List.length_filter_le _ _) (by simp; omega)
theorem atCells_app (a b : Ats) : atCells (a ++ b) = atCells a ++ atCells b := by simp [atCells]
theorem ownsA_nil (w : World) (base : Nat) : w.ownsRow base 39 2 (.slice none 0 0) 0 [] := ⟨rfl, .inl ⟨rfl, rfl⟩⟩
theorem keepTk {wr W w' : World} {B : Nat} {x y : Value} (h : W.cell? ⟨B, 0, none⟩ = some x ∧ W.cell? ⟨B, 5, none⟩ = some y ∧ Below wr.heap.size wr W) (hB : B < wr.heap.size) (hb : Below W.heap.size W w') : w'.cell? ⟨B, 0, none⟩ = some x ∧ w'.cell? ⟨B, 5, none⟩ = some y ∧ Below wr.heap.size wr w' := by
  obtain ⟨h1, h2, h3⟩ := h
  obtain ⟨hc, -⟩ := bat hb B (Nat.lt_of_lt_of_le hB h3.size)
  exact ⟨(hc _).trans h1, (hc _).trans h2, belowT h3 hb⟩
set_option maxHeartbeats 1000000 in
theorem tokens_any (z : Sz) (sv : Value) (w : World) (hT : TkS w sv z.pl) (hpl : z.pl.length ≤ 1000) (hat : ∀ tk ∈ z.pl, tk.as.length * 32 ≤ 140737488351232) :
    Calls Tryd.prog 28 #[szV z sv] w fun e w' => ∃ v, e = .returned v ∧ TkS w' v (tokensZ z) ∧ Below w.heap.size w w' := by
  obtain ⟨i0, hi, hz0, hz1, hz2⟩ := info_parts infoA
  have hAll : attrsZ z = fil (allA z) := rfl
  have h4 : (allA z).length = 4 := rfl
  have hix := ixA z
  obtain ⟨svp, svc, rfl⟩ : ∃ a c, sv = .slice a z.pl.length c := by obtain ⟨a, c, h, -⟩ := hT; exact ⟨a, c, h⟩
  replace hT := Lib.hid hT
  replace hat := Lib.hid hat
  replace hAll := Lib.hid hAll
  unfold szV
  obtain ⟨k, ty, fr, tt, id, pl⟩ := z
  simp only at hix hpl ⊢
  generalize hAA : allA ⟨k, ty, fr, tt, id, pl⟩ = AL at hix h4
  replace hAA := Lib.hid hAA
  have hbd := bdA
  go_enter Tryd.func28, Tryd.ntmps28
  go_wp2_with fail
  go_loopw [3, 19] (fun s3 s19 wr => ∃ j : Nat, j ≤ 4 ∧ s19 = .int .i64 j ∧ Hid (wr.ownsRow (w.heap.size + 1) 39 2 s3 (fil (AL.take j)).length (atCells (fil (AL.take j)))) ∧ Hid (Below (w.heap.size + 1) (w.alloc (.cells #[.int .u8 k, .string ⟨ty.toArray⟩, .string ⟨fr.toArray⟩, .string ⟨tt.toArray⟩, .string ⟨id.toArray⟩, .slice svp pl.length svc] 45)) wr)) (fun _ s19 _ => 4 - (intOf s19).toNat)
  case atStart =>
    exact ⟨0, by omega, rfl, Lib.hid (ownsA_nil _ _), Lib.hid (Below.refl _ _)⟩
  case round =>
    obtain ⟨j, hj, rfl, hO, hB⟩ := hrel
    have hsz := hB.out.size
    simp only [World.size_alloc] at hsz
    by_cases hlt : j < 4
    · have hlt' : j < AL.length := by omega
      have hix' := hix j hlt'
      have hfs := fil_snoc hlt'
      generalize AL[j] = q at hix' hfs
      obtain ⟨nm, vl⟩ := q
      simp only at hix' hfs
      have hfl := fil_len AL j
      have hji : (j : Int) < 4 := by omega
      clear hix hbd
      by_cases hv : vl = []
      · subst hv
        rw [if_pos rfl, List.append_nil] at hfs
        replace hfs := Lib.hid hfs
        go_wp2_with fail
        go_roundw
        refine ⟨j + 1, by omega, by simp, ?_, ?_⟩
        · rw [hfs.out]; exact Lib.hid (hO.out.alloc _)
        · exact Lib.hid (hB.out.alloc (by simpa using hsz) _)
        · simp [intOf]; omega
      · have hv1 : (vl == []) = false := by simpa using hv
        rw [if_neg hv] at hfs
        replace hfs := Lib.hid hfs
        have one1 := atCells_one [(nm, vl)]
        have hO1 := (hO.out.alloc (.cells #[.string ⟨nm.toArray⟩, .string ⟨vl.toArray⟩] 39)).alloc (.cells #[.string ⟨nm.toArray⟩, .string ⟨vl.toArray⟩] 39)
        replace hO1 := Lib.hid hO1
        go_wp2_with (at_builtin; refine wpList_append_own _ rfl _ _ 33 rfl (w.heap.size + 1) 39 i0 _ 2 32 Tryd.underlying33 hi hz0 hz1 hz2 rfl (by decide) _ _ _ rfl hO1.out ⟨wr.heap.size + 1, 0, none⟩ 1 1 (atCells [(nm, vl)]) rfl rfl (by have := cells_new (wr.alloc (.cells #[.string ⟨nm.toArray⟩, .string ⟨vl.toArray⟩] 39)) (atCells [(nm, vl)]) 39; rw [World.size_alloc] at this; exact this) one1 (by unfold maxLen; omega) (by omega) (by simp only [World.size_alloc]; omega) ?_
                     intro v' w2 hO2 hg2 _
                     have hb2 := ((hB.out.alloc (by simpa using hsz) (.cells #[.string ⟨nm.toArray⟩, .string ⟨vl.toArray⟩] 39)).alloc (by simp only [World.size_alloc]; omega) (.cells #[.string ⟨nm.toArray⟩, .string ⟨vl.toArray⟩] 39)).grown hg2 (by simp only [World.size_alloc]; omega) (fun k hk => (hO1.out.lt k hk).1)
                     replace hO2 := Lib.hid hO2
                     replace hb2 := Lib.hid hb2)
        go_roundw
        · refine ⟨j + 1, by omega, by simp, ?_, hb2⟩
          rw [hfs.out, List.length_append, atCells_app]
          exact hO2
        · simp [intOf]; omega
    · obtain rfl : j = 4 := by omega
      have e4 : fil (AL.take 4) = attrsZ ⟨k, ty, fr, tt, id, pl⟩ := by rw [hAll.out, hAA.out, List.take_of_length_le (by omega)]
      replace hO := Lib.hid (e4 ▸ hO.out)
      have kc := fun (i : Nat) => hB.out.cell (p := ⟨w.heap.size, i, none⟩) (by simp)
      have c0 := (kc 0).trans (by simp : _ = some (.int .u8 (k : Int)))
      have c5 := (kc 5).trans (by simp : _ = some (.slice svp pl.length svc))
      clear kc hix hbd hAll hAA
      have hX := owns_at hO.out rfl
      have hA0 : AtS wr u3 (attrsZ ⟨k, ty, fr, tt, id, pl⟩) := hX.at
      have hal := attrsZ_len ⟨k, ty, fr, tt, id, pl⟩
      have hBw : Below w.heap.size w wr := (below1 w _).trans (hB.out.mono (by simp))
      have hT1 : TkS wr (.slice svp pl.length svc) pl := hT.out.below hBw
      obtain ⟨u3p, u3n, u3c, rfl⟩ : ∃ a n c, u3 = .slice a n c := by obtain ⟨a, c, h, -⟩ := hA0; exact ⟨a, _, c, h⟩
      have hE : ∀ W, Below wr.heap.size wr W → Calls Tryd.prog 9 #[.string ⟨(nameK k).toArray⟩, .slice u3p u3n u3c, .slice svp pl.length svc] W fun e w' => ∃ v, e = .returned v ∧ TkS w' v (tokensZ ⟨k, ty, fr, tt, id, pl⟩) ∧ Below W.heap.size W w' := fun W hb =>
        element_any (nameK k) _ _ (attrsZ ⟨k, ty, fr, tt, id, pl⟩) pl W (hA0.below hb) (by omega) (hT1.below hb) hpl hat.out
      have hB0 : w.heap.size < wr.heap.size := by omega
      replace hA0 := Lib.hid hA0
      replace hT1 := Lib.hid hT1
      replace hX := Lib.hid hX
      replace hBw := Lib.hid hBw
      replace hE := Lib.hid hE
      have hBr := Below.refl wr.heap.size wr
      go_wp2_with fail
      go_region_held3 (fun W => W.cell? ⟨w.heap.size, 0, none⟩ = some (.int .u8 (k : Int)) ∧ W.cell? ⟨w.heap.size, 5, none⟩ = some (.slice svp pl.length svc) ∧ Below wr.heap.size wr W)
        (first | assumption | exact ⟨c0, c5, hBr.drew⟩ | exact keepTk (by assumption) hB0 (by assumption))
        (first
          | (go_at_call 33; refine (stName_any _ _).mono ?_; rintro e w1 ⟨rfl, rfl⟩)
          | (go_at_call 9; refine (hE.out _ (by first | assumption | exact hBr.drew)).mono ?_; rintro e w1 ⟨v, rfl, hv, hb⟩))
      all_goals go_wp2_with fail
      all_goals go_ret
      all_goals exact ⟨_, rfl, hv, belowT (hBw.out.drew) hb⟩
end Go.Proofs.YtjpdadibeocpfaaDoor
