/-
  What tokens say (Decode), by the program. Condition: no text beyond the reach, at most 1000 tokens.
-/
import Derived.Test.YtjpdadibeocpfaaDoorStRe
import Derived.Deep.RegionHeld3
namespace Go.Proofs.YtjpdadibeocpfaaDoor
set_option linter.unusedVariables false
set_option linter.unusedSimpArgs false
open Go.RowKit Go.MapKept
theorem ixK0 (w : World) : (Instr.index 82 (.agg #[.int .u8 1, .int .u8 2, .int .u8 3]) (.int .i64 0)).run Tryd.prog w = .ok (.int .u8 1) w := by kernel_rfl
theorem ixK1 (w : World) : (Instr.index 82 (.agg #[.int .u8 1, .int .u8 2, .int .u8 3]) (.int .i64 1)).run Tryd.prog w = .ok (.int .u8 2) w := by kernel_rfl
theorem ixK2 (w : World) : (Instr.index 82 (.agg #[.int .u8 1, .int .u8 2, .int .u8 3]) (.int .i64 2)).run Tryd.prog w = .ok (.int .u8 3) w := by kernel_rfl
theorem ixK (j K : Nat) (h : j < 3) (hK : j + 1 = K) (w : World) : (Instr.index 82 (.agg #[.int .u8 1, .int .u8 2, .int .u8 3]) (.int .i64 j)).run Tryd.prog w = .ok (.int .u8 K) w := by
  subst hK
  obtain rfl | rfl | rfl : j = 0 ∨ j = 1 ∨ j = 2 := by omega
  · exact ixK0 w
  · exact ixK1 w
  · exact ixK2 w
theorem bdK (w : World) : (Instr.build 82 #[(0, .int .u8 1), (1, .int .u8 2), (2, .int .u8 3)]).run Tryd.prog w = .ok (.agg #[.int .u8 1, .int .u8 2, .int .u8 3]) w := by kernel_rfl
theorem set6 {w w1 : World} {B b : Nat} (h : Below B w w1) (hb : B ≤ b) (v0 v1 v2 v3 v4 v5 : Value) : Below B w ((((((w1.setCell ⟨b, 0, none⟩ v0).setCell ⟨b, 1, none⟩ v1).setCell ⟨b, 2, none⟩ v2).setCell ⟨b, 3, none⟩ v3).setCell ⟨b, 4, none⟩ v4).setCell ⟨b, 5, none⟩ v5) :=
  (((((h.setCell (p := ⟨b, 0, none⟩) hb _).setCell (p := ⟨b, 1, none⟩) hb _).setCell (p := ⟨b, 2, none⟩) hb _).setCell (p := ⟨b, 3, none⟩) hb _).setCell (p := ⟨b, 4, none⟩) hb _).setCell (p := ⟨b, 5, none⟩) hb _
theorem set6o (w : World) {B b : Nat} (hb : b ≠ B) (v0 v1 v2 v3 v4 v5 : Value) : ((((((w.setCell ⟨B, 0, none⟩ v0).setCell ⟨B, 1, none⟩ v1).setCell ⟨B, 2, none⟩ v2).setCell ⟨B, 3, none⟩ v3).setCell ⟨B, 4, none⟩ v4).setCell ⟨B, 5, none⟩ v5).heap[b]? = w.heap[b]? := by
  rw [Below.heap_setCell _ _ _ _ hb, Below.heap_setCell _ _ _ _ hb, Below.heap_setCell _ _ _ _ hb, Below.heap_setCell _ _ _ _ hb, Below.heap_setCell _ _ _ _ hb, Below.heap_setCell _ _ _ _ hb]
theorem set6s (w : World) (B : Nat) (v0 v1 v2 v3 v4 v5 : Value) : ((((((w.setCell ⟨B, 0, none⟩ v0).setCell ⟨B, 1, none⟩ v1).setCell ⟨B, 2, none⟩ v2).setCell ⟨B, 3, none⟩ v3).setCell ⟨B, 4, none⟩ v4).setCell ⟨B, 5, none⟩ v5).heap.size = w.heap.size := by simp [World.setCell]
theorem TkF.set6 {n : Nat} {w : World} {v : Value} {l : List Tk} (h : TkF n w v l) {B : Nat} (hB : B < n) (v0 v1 v2 v3 v4 v5 : Value) : TkS ((((((w.setCell ⟨B, 0, none⟩ v0).setCell ⟨B, 1, none⟩ v1).setCell ⟨B, 2, none⟩ v2).setCell ⟨B, 3, none⟩ v3).setCell ⟨B, 4, none⟩ v4).setCell ⟨B, 5, none⟩ v5) v l :=
  h _ (by rw [set6s]; exact Nat.le_refl _) (fun b h1 _ => set6o w (by omega) _ _ _ _ _ _)
theorem TkF.set {n : Nat} {w : World} {v : Value} {l : List Tk} (h : TkF n w v l) {B i : Nat} (hB : B < n) (u : Value) : TkF n (w.setCell ⟨B, i, none⟩ u) v l :=
  h.keep (by simp [World.setCell]) (fun b h1 _ => Below.heap_setCell _ _ _ _ (by show b ≠ B; omega))
theorem TkF.below {n : Nat} {w w' : World} {v : Value} {l : List Tk} (h : TkF n w v l) (hb : Below w.heap.size w w') : TkF n w' v l := h.keep hb.size (fun b _ h2 => hb.block b h2)
theorem TkS.mid' {w : World} {vp : Option Addr} {c : Nat} {l : List Tk} (h : TkS w (.slice vp l.length c) l) (h2 : 2 ≤ l.length) : ∀ b o, vp = some ⟨b, o, none⟩ → TkS w (.slice (some ⟨b, o + 4, none⟩) (l.length - 2) (c - 1)) ((l.drop 1).take (l.length - 2)) := fun b o e => by
  subst e
  exact h.mid h2
set_option maxHeartbeats 2000000 in
theorem decode_any (v : Value) (l : List Tk) (w : World) (h : TkS w v l) (hs : ∀ tk ∈ l, tk.small ∧ tk.as.length * 32 ≤ 140737488351232) (hl : l.length ≤ 1000) :
    Calls Tryd.prog 15 #[v] w fun e w' => ∃ sv z, e = .returned (.tuple #[szV z sv, .int .i64 (errE (decZ l).isSome)]) ∧ (decZ l).getD zero0 = z ∧ TkS w' sv z.pl ∧ Below w.heap.size w w' := by
  have hbd := bdK
  have hix := ixK
  obtain ⟨vp, vc, rfl⟩ : ∃ a c, v = .slice a l.length c := by obtain ⟨a, c, h, -⟩ := h; exact ⟨a, c, h⟩
  have hW : Hid (∀ W, Below w.heap.size w W → Calls Tryd.prog 32 #[.slice vp l.length vc] W fun e w' => e = .returned (.bool (wholeL l)) ∧ Below W.heap.size W w') := Lib.hid fun W hb => whole_full _ _ W (h.below hb) (fun tk ht => (hs tk ht).1)
  cases hw : wholeL l
  · have e1 : decZ l = none := by unfold decZ; rw [if_pos hw]
    rw [e1]
    rw [hw] at hW
    replace h := Lib.hid h
    go_enter Tryd.func15, Tryd.ntmps15
    go_wp2_with (go_at_call 32; refine (hW.out _ (below1 _ _)).mono ?_; rintro e w1 ⟨rfl, hb⟩; obtain ⟨hc, hz⟩ := bat hb w.heap.size (by simp); have hb0 : w.heap.size < w1.heap.size := Nat.lt_of_lt_of_le (by simp) hb.size; replace hb := Lib.hid hb)
    refine bodyPost_ret (v := .tuple #[.agg #[.int .u8 0, .string ⟨#[]⟩, .string ⟨#[]⟩, .string ⟨#[]⟩, .string ⟨#[]⟩, .slice none 0 0], .int .i64 3]) (by simp [results, Tryd.results15, go_sem, hc, hz]) rfl ⟨_, zero0, rfl, rfl, tk_nil _ 0 (Nat.zero_le _), ?_⟩
    exact set6 (below1t hb.out) (Nat.le_refl _) _ _ _ _ _ _
  · have h2 := whole_two hw
    have hM := h.mid' h2
    have hdec : decZ l = match decA ⟨kindN (l[0]'(by omega)).n, [], [], [], [], []⟩ (l[0]'(by omega)).as with
      | some z => if rightZ { z with pl := (l.drop 1).take (l.length - 2) } then some { z with pl := (l.drop 1).take (l.length - 2) } else none
      | none => none := by
      unfold decZ
      rw [if_neg (by rw [hw]; simp), show l.head? = some (l[0]'(by omega)) by rw [List.head?_eq_getElem?, List.getElem?_eq_getElem (by omega)]]
      rfl
    have hs0 := hs _ (List.getElem_mem (by omega : 0 < l.length))
    have hMs : ∀ tk ∈ (l.drop 1).take (l.length - 2), tk.small ∧ tk.as.length * 32 ≤ 140737488351232 := fun tk ht => hs tk (List.mem_of_mem_drop (List.mem_of_mem_take ht))
    have hMl : ((l.drop 1).take (l.length - 2)).length ≤ 1000 := by simp; omega
    rw [hw] at hW
    obtain ⟨ptr, cap, he, hc1, hc2, hcell⟩ := h
    injection he with e1 e2 e3
    subst e1 e3
    obtain ⟨b, o, rfl, hb, hcc⟩ := hcell (by omega)
    obtain ⟨sv0, d0, d1, d2, d3, hA0⟩ := hcc 0 (by omega)
    rw [Nat.zero_mul, Nat.add_zero] at d0 d1 d2 d3
    generalize l[0] = tk0 at d0 d1 d2 d3 hA0 hdec hs0
    obtain ⟨k0, n0, al, t0⟩ := tk0
    simp only at d0 d1 d2 d3 hA0 hdec hs0
    generalize (l.drop 1).take (l.length - 2) = M at hM hdec hMs hMl
    obtain ⟨ap, ac, rfl, ha1, ha2, hat⟩ := hA0
    have hn2 : (2 : Int) ≤ l.length := by omega
    have hn9 : (l.length : Int) ≤ 9223372036854775807 := by omega
    have ha9 : (al.length : Int) ≤ 9223372036854775807 := by unfold maxLen at ha2; omega
    clear hs hcell hcc
    have hM := hM b o rfl
    generalize l.length = n at *
    replace hdec := Lib.hid hdec
    replace hMs := Lib.hid hMs
    replace hMl := Lib.hid hMl
    replace hs0 := Lib.hid hs0
    replace hat := Lib.hid hat
    replace hM := Lib.hid hM
    replace hw := Lib.hid hw
    have h2' : 2 ≤ n := h2
    have h0n : 0 < n := by omega
    go_enter Tryd.func15, Tryd.ntmps15
    go_wp2_with (go_at_call 32; refine (hW.out _ (below1 _ _)).mono ?_; rintro e w1 ⟨rfl, hb1⟩; obtain ⟨hc, hz1⟩ := bat hb1 w.heap.size (by simp); have hb0 : w.heap.size < w1.heap.size := Nat.lt_of_lt_of_le (by simp) hb1.size; replace hb1 := Lib.hid (below1t hb1))
    have hw1 : w.heap.size < w1.heap.size := hb0
    go_loopw [15] (fun s15 wr => ∃ j : Nat, j ≤ 3 ∧ s15 = .int .i64 j ∧ Hid (wr.heap[w1.heap.size]? = some (objZ ⟨kdTo n0 j, [], [], [], [], []⟩ (.slice none 0 0))) ∧ Hid (Below w1.heap.size w1 wr)) (fun s15 _ => 3 - (intOf s15).toNat)
    case atStart =>
      exact ⟨0, by omega, rfl, Lib.hid (heap_alloc _ _).1, Lib.hid (below1 _ _)⟩
    case round =>
      obtain ⟨j, hj, rfl, hO, hB⟩ := hrel
      have hsz := hB.out.size
      by_cases hlt : j < 3
      · obtain ⟨K, hK⟩ : ∃ K, j + 1 = K := ⟨_, rfl⟩
        have hixj := hix j K hlt hK
        have hji : (j : Int) < 3 := by omega
        obtain ⟨oc, of, -⟩ := obj_cells hO.out
        have hbwr : b < wr.heap.size := by have := hb1.out.size; omega
        have d1' : wr.cell? ⟨b, o + 1, none⟩ = some (.string ⟨n0.toArray⟩) := by
          rw [(bat hB.out b (by have := hb1.out.size; omega)).1, (bat hb1.out b hb).1, d1]
        clear hix hbd
        replace hK := Lib.hid hK
        have hwr : w1.heap.size < wr.heap.size := (obj_cells hO.out).2.2
        by_cases hn : nameK K = n0
        · have hnb : (nameK K == n0) = true := by simpa using hn
          have hob := Lib.hid (obj_set (i := 0) hO.out (.int .u8 K))
          clear hn
          go_wp2_with fail
          go_region_held3 (fun W => W.cell? ⟨b, o + 1, none⟩ = some (.string ⟨n0.toArray⟩)) (first | assumption) (first | (go_at_call 33; refine (stName_any _ _).mono ?_; rintro e w1 ⟨rfl, rfl⟩))
          all_goals go_wp2_with fail
          refine ⟨⟨j + 1, by omega, by simp, ?_, Lib.hid ((hB.out.setCell (p := ⟨w1.heap.size, 0, none⟩) (Nat.le_refl _) _).drew)⟩, by simp [intOf]; omega⟩
          have e : kdTo n0 (j + 1) = K := by
            rw [← hK.out]
            unfold kdTo
            rw [if_pos (by rw [hK.out]; simpa using hnb)]
          rw [e]
          exact hob
        · have hnb : (nameK K == n0) = false := by simpa using hn
          have hnn : ¬ nameK K = n0 := hn
          clear hn
          go_wp2_with fail
          go_region_held3 (fun W => W.cell? ⟨b, o + 1, none⟩ = some (.string ⟨n0.toArray⟩)) (first | assumption) (first | (go_at_call 33; refine (stName_any _ _).mono ?_; rintro e w1 ⟨rfl, rfl⟩))
          all_goals go_wp2_with fail
          refine ⟨⟨j + 1, by omega, by simp, ?_, Lib.hid (hB.out.drew)⟩, by simp [intOf]; omega⟩
          have e : kdTo n0 (j + 1) = kdTo n0 j := by
            show (if nameK (j + 1) = n0 then j + 1 else kdTo n0 j) = _
            rw [if_neg (by rw [hK.out]; exact hnn)]
          rw [e]
          exact hO
      · obtain rfl : j = 3 := by omega
        rw [kdTo_3] at hO
        obtain ⟨oc, of, hwr⟩ := obj_cells hO.out
        have hbwr : b < wr.heap.size := by have := hb1.out.size; omega
        have hbw1 : b < w1.heap.size := by have := hb1.out.size; omega
        have d2' : wr.cell? ⟨b, o + 2, none⟩ = some (.slice ap al.length ac) := by
          rw [(bat hB.out b hbw1).1, (bat hb1.out b hb).1, d2]
        clear hix hbd oc of
        generalize kindN n0 = kd at hO hdec
        go_wp2_with fail
        go_loopw [33] (fun s33 wr => ∃ (j : Nat) (z : Sz), j ≤ al.length ∧ s33 = .int .i64 j ∧ Hid (decA ⟨kd, [], [], [], [], []⟩ (al.take j) = some z) ∧ Hid (wr.heap[w1.heap.size]? = some (objZ z (.slice none 0 0))) ∧ Hid (Below w1.heap.size w1 wr)) (fun s33 _ => al.length - (intOf s33).toNat)
        case atStart =>
          exact ⟨0, _, by omega, rfl, Lib.hid rfl, hO, hB⟩
        case round =>
          clear hO hB hwr hbwr d2'
          obtain ⟨j, z, hj, rfl, hz, hO, hB⟩ := hrel
          have hsz := hB.out.size
          obtain ⟨oc, of, hwr⟩ := obj_cells hO.out
          by_cases hlt : j < al.length
          · obtain ⟨ab, ao, rfl, hab, hacell⟩ := hat.out (by omega)
            obtain ⟨a0, a1⟩ := hacell j hlt
            have hj1 := decA_step hlt hz.out
            have hj2 := decA_stop hlt hz.out
            have hji : (j : Int) < al.length := by omega
            have hab1 : ab < w1.heap.size := by have := hb1.out.size; omega
            have habr : ab < wr.heap.size := by omega
            replace a0 : wr.cell? ⟨ab, ao + j * 2, none⟩ = _ := ((bat hB.out ab hab1).1 _).trans (((bat hb1.out ab hab).1 _).trans a0)
            replace a1 : wr.cell? ⟨ab, ao + j * 2 + 1, none⟩ = _ := ((bat hB.out ab hab1).1 _).trans (((bat hb1.out ab hab).1 _).trans a1)
            clear hacell
            generalize al[j] = p at a0 a1 hj1 hj2
            obtain ⟨nm, vl⟩ := p
            simp only at a0 a1 hj1 hj2
            replace hj1 := Lib.hid hj1
            replace hj2 := Lib.hid hj2
            have hmm := @run_makeMap Tryd.prog
            have i1 := insert_top (P := Tryd.prog) (w := wr.alloc (.cells #[.string ⟨nm.toArray⟩, .string ⟨vl.toArray⟩] 39)) Tryd.underlying85 Tryd.underlying9 #[] 0 (key := .string ⟨#[116, 121, 112, 101]⟩) trivial (by kernel_rfl) (.pointer (some ⟨w1.heap.size, 1, none⟩))
            have i2 := insert_top (P := Tryd.prog) (w := wr.alloc (.cells #[.string ⟨nm.toArray⟩, .string ⟨vl.toArray⟩] 39)) Tryd.underlying85 Tryd.underlying9 #[⟨.string ⟨#[116, 121, 112, 101]⟩, .pointer (some ⟨w1.heap.size, 1, none⟩), 0⟩] 1 (key := .string ⟨#[102, 114, 111, 109]⟩) trivial (by kernel_rfl) (.pointer (some ⟨w1.heap.size, 2, none⟩))
            have i3 := insert_top (P := Tryd.prog) (w := wr.alloc (.cells #[.string ⟨nm.toArray⟩, .string ⟨vl.toArray⟩] 39)) Tryd.underlying85 Tryd.underlying9 #[⟨.string ⟨#[116, 121, 112, 101]⟩, .pointer (some ⟨w1.heap.size, 1, none⟩), 0⟩, ⟨.string ⟨#[102, 114, 111, 109]⟩, .pointer (some ⟨w1.heap.size, 2, none⟩), 1⟩] 2 (key := .string ⟨#[116, 111]⟩) trivial (by kernel_rfl) (.pointer (some ⟨w1.heap.size, 3, none⟩))
            have i4 := insert_top (P := Tryd.prog) (w := wr.alloc (.cells #[.string ⟨nm.toArray⟩, .string ⟨vl.toArray⟩] 39)) Tryd.underlying85 Tryd.underlying9 #[⟨.string ⟨#[116, 121, 112, 101]⟩, .pointer (some ⟨w1.heap.size, 1, none⟩), 0⟩, ⟨.string ⟨#[102, 114, 111, 109]⟩, .pointer (some ⟨w1.heap.size, 2, none⟩), 1⟩, ⟨.string ⟨#[116, 111]⟩, .pointer (some ⟨w1.heap.size, 3, none⟩), 2⟩] 3 (key := .string ⟨#[105, 100]⟩) trivial (by kernel_rfl) (.pointer (some ⟨w1.heap.size, 4, none⟩))
            simp only [World.size_alloc] at i1 i2 i3 i4
            have hE : Ents ((wr.alloc (.cells #[.string ⟨nm.toArray⟩, .string ⟨vl.toArray⟩] 39)).alloc (.map #[⟨.string ⟨#[116, 121, 112, 101]⟩, .pointer (some ⟨w1.heap.size, 1, none⟩), 0⟩, ⟨.string ⟨#[102, 114, 111, 109]⟩, .pointer (some ⟨w1.heap.size, 2, none⟩), 1⟩, ⟨.string ⟨#[116, 111]⟩, .pointer (some ⟨w1.heap.size, 3, none⟩), 2⟩, ⟨.string ⟨#[105, 100]⟩, .pointer (some ⟨w1.heap.size, 4, none⟩), 3⟩] 4)) (wr.heap.size + 1) (kvP w1.heap.size) := ⟨_, _, by have := (heap_alloc (wr.alloc (.cells #[.string ⟨nm.toArray⟩, .string ⟨vl.toArray⟩] 39)) (.map #[⟨.string ⟨#[116, 121, 112, 101]⟩, .pointer (some ⟨w1.heap.size, 1, none⟩), 0⟩, ⟨.string ⟨#[102, 114, 111, 109]⟩, .pointer (some ⟨w1.heap.size, 2, none⟩), 1⟩, ⟨.string ⟨#[116, 111]⟩, .pointer (some ⟨w1.heap.size, 3, none⟩), 2⟩, ⟨.string ⟨#[105, 100]⟩, .pointer (some ⟨w1.heap.size, 4, none⟩), 3⟩] 4)).1; rw [World.size_alloc] at this; exact this, rfl⟩
            have hL := lookup_ents (P := Tryd.prog) (t := 85) (k := 9) (e := 84) false Tryd.underlying85 Tryd.underlying9 (z := .pointer none) (by kernel_rfl) hE (kvP_keys _) (key := .string ⟨nm.toArray⟩) trivial
            rw [ptr_find] at hL
            simp only [Bool.false_eq_true, if_false] at hL
            clear hE
            have hcase : (∃ i, (0 < i ∧ i < 5) ∧ (if nm = tyL then some (Value.pointer (some ⟨w1.heap.size, 1, none⟩)) else if nm = frL then some (Value.pointer (some ⟨w1.heap.size, 2, none⟩)) else if nm = toL then some (Value.pointer (some ⟨w1.heap.size, 3, none⟩)) else if nm = idL then some (Value.pointer (some ⟨w1.heap.size, 4, none⟩)) else none) = some (Value.pointer (some ⟨w1.heap.size, i, none⟩)) ∧
                ∃ z', setZ z (nm, vl) = some z' ∧ objZ z' (.slice none 0 0) = .cells (#[Value.int .u8 z.k, .string ⟨z.ty.toArray⟩, .string ⟨z.fr.toArray⟩, .string ⟨z.tt.toArray⟩, .string ⟨z.id.toArray⟩, .slice none 0 0].setIfInBounds i (.string ⟨vl.toArray⟩)) 45) ∨
                ((if nm = tyL then some (Value.pointer (some ⟨w1.heap.size, 1, none⟩)) else if nm = frL then some (Value.pointer (some ⟨w1.heap.size, 2, none⟩)) else if nm = toL then some (Value.pointer (some ⟨w1.heap.size, 3, none⟩)) else if nm = idL then some (Value.pointer (some ⟨w1.heap.size, 4, none⟩)) else none) = none ∧ setZ z (nm, vl) = none) := by
              by_cases g1 : nm = tyL
              · exact .inl ⟨1, by omega, by rw [if_pos g1], _, by unfold setZ; rw [if_pos g1], rfl⟩
              by_cases g2 : nm = frL
              · exact .inl ⟨2, by omega, by rw [if_neg g1, if_pos g2], _, by unfold setZ; rw [if_neg g1, if_pos g2], rfl⟩
              by_cases g3 : nm = toL
              · exact .inl ⟨3, by omega, by rw [if_neg g1, if_neg g2, if_pos g3], _, by unfold setZ; rw [if_neg g1, if_neg g2, if_pos g3], rfl⟩
              by_cases g4 : nm = idL
              · exact .inl ⟨4, by omega, by rw [if_neg g1, if_neg g2, if_neg g3, if_pos g4], _, by unfold setZ; rw [if_neg g1, if_neg g2, if_neg g3, if_pos g4], rfl⟩
              exact .inr ⟨by rw [if_neg g1, if_neg g2, if_neg g3, if_neg g4], by unfold setZ; rw [if_neg g1, if_neg g2, if_neg g3, if_neg g4]⟩
            rcases hcase with ⟨i, hi, hr, z', hz', hobj⟩ | ⟨hr, hzn⟩
            · rw [hr] at hL
              simp only [Option.getD_some] at hL
              have oci : ∃ ov, wr.cell? ⟨w1.heap.size, i, none⟩ = some ov := by
                rw [oc]
                obtain rfl | rfl | rfl | rfl : i = 1 ∨ i = 2 ∨ i = 3 ∨ i = 4 := by omega
                all_goals exact ⟨_, rfl⟩
              obtain ⟨ov, oci⟩ := oci
              clear hr oc
              replace hobj := Lib.hid hobj
              replace hz' := Lib.hid hz'
              go_wp2_with fail
              refine ⟨⟨j + 1, z', by omega, by simp, Lib.hid (hj1.out.trans hz'.out), Lib.hid ?_, Lib.hid (belowA (belowA (hB.out.setCell (p := ⟨w1.heap.size, i, none⟩) (Nat.le_refl _) _) _) _)⟩, by simp [intOf]; omega⟩
              rw [hobj.out]
              exact obj_alloc (obj_alloc (obj_set hO.out _))
            · rw [hr] at hL
              simp only [Option.getD_none] at hL
              clear hr oc
              have hnone : Hid (decZ l = none) := Lib.hid (by rw [hdec.out, hj2.out hzn])
              have hcw := fun o => ((bat hB.out w.heap.size hb0).1 o).trans (hc o)
              have hzw := fun o => ((bat hB.out w.heap.size hb0).2 o).trans (hz1 o)
              have hwr0 : w.heap.size < wr.heap.size := by omega
              clear hc hz1
              go_wp2_with fail
              refine bodyPost_ret (v := .tuple #[.agg #[.int .u8 0, .string ⟨#[]⟩, .string ⟨#[]⟩, .string ⟨#[]⟩, .string ⟨#[]⟩, .slice none 0 0], .int .i64 3]) (by simp [results, Tryd.results15, go_sem, hcw, hzw, hwr0]) rfl ⟨_, zero0, by rw [hnone.out]; rfl, by rw [hnone.out]; rfl, tk_nil _ 0 (Nat.zero_le _), ?_⟩
              exact belowA (belowA (set6 (hb1.out.trans (hB.out.mono (by omega))) (Nat.le_refl _) _ _ _ _ _ _) _) _
          · obtain rfl : j = al.length := by omega
            rw [List.take_of_length_le (Nat.le_refl _)] at hz
            obtain ⟨⟨s1, s2, s3, s4⟩, hzk, hzp⟩ := decA_small hs0.out.1.2.2.2 (z := ⟨kd, [], [], [], [], []⟩) ⟨by simp, by simp, by simp, by simp⟩ hz.out
            have hzs : ({ z with pl := M } : Sz).small := ⟨⟨s1, s2, s3, s4⟩, hMl.out, hMs.out⟩
            have hdec' : decZ l = if rightZ { z with pl := M } then some { z with pl := M } else none := by rw [hdec.out, hz.out]
            have hin : Hid (∀ W, Below w.heap.size w W → Calls Tryd.prog 34 #[.slice (some ⟨b, o + 4, none⟩) (n - 1 - 1) (vc - 1)] W fun e w' => ∃ v', e = .returned v' ∧ TkF W.heap.size w' v' M ∧ Below W.heap.size W w') := Lib.hid fun W hb => by rw [Nat.sub_sub]; exact inside_any _ M W (hM.out.below hb) hMl.out (fun tk ht => (hMs.out tk ht).2)
            have hRt : Hid (∀ W v', TkS W v' M → Calls Tryd.prog 14 #[szV { z with pl := M } v'] W fun e w' => e = .returned (.bool (rightZ { z with pl := M })) ∧ Below W.heap.size W w') := Lib.hid fun W v' h => right_any6 { z with pl := M } v' W h hzs
            have hcw := fun o => ((bat hB.out w.heap.size hb0).1 o).trans (hc o)
            have hzw := fun o => ((bat hB.out w.heap.size hb0).2 o).trans (hz1 o)
            have hwr0 : w.heap.size < wr.heap.size := by omega
            have hBw : Hid (Below w.heap.size w wr) := Lib.hid (hb1.out.trans (hB.out.mono (by omega)))
            clear hc hz1 hzp hzk hzs hj hlt oc of d0 d1 d2 d3 hat
            replace hz := Lib.hid hz
            cases hr : rightZ { z with pl := M }
            · have hnone : Hid (decZ l = none) := Lib.hid (by rw [hdec', hr]; rfl)
              rw [hr] at hRt
              clear hdec'
              replace hr := Lib.hid hr
              go_wp2_with (first
                | (go_at_call 34
                   refine (hin.out _ hBw.out).mono ?_
                   rintro e w2 ⟨v', rfl, hF, hb2⟩
                   obtain ⟨va, vn, vc', rfl⟩ : ∃ a n c, v' = .slice a n c := by obtain ⟨a, c, h, -⟩ := hF.tks; exact ⟨a, _, c, h⟩
                   obtain ⟨oc2, of2, hw2⟩ := obj_cells ((hb2.block _ hwr).trans hO.out)
                   have hcw2 := fun o => ((bat hb2 w.heap.size hwr0).1 o).trans (hcw o)
                   have hzw2 := fun o => ((bat hb2 w.heap.size hwr0).2 o).trans (hzw o)
                   have hw20 : w.heap.size < w2.heap.size := Nat.lt_of_lt_of_le hwr0 hb2.size
                   have hne : (w.heap.size = w1.heap.size) = False := by simp; omega
                   replace hF := Lib.hid hF
                   replace hb2 := Lib.hid hb2)
                | (go_at_call 14
                   refine (hRt.out _ _ (hF.out.set hwr _).tks).mono ?_
                   rintro e w4 ⟨rfl, hb4⟩
                   have hs3 : (w2.setCell ⟨w1.heap.size, 5, none⟩ (.slice va vn vc')).heap.size = w2.heap.size := by simp [World.setCell]
                   obtain ⟨hcw4, hzw4⟩ := bat hb4 w.heap.size (by rw [hs3]; exact hw20)
                   replace hb4 := Lib.hid hb4
                   replace hs3 := Lib.hid hs3))
              refine bodyPost_ret (v := .tuple #[.agg #[.int .u8 0, .string ⟨#[]⟩, .string ⟨#[]⟩, .string ⟨#[]⟩, .string ⟨#[]⟩, .slice none 0 0], .int .i64 3]) (by simp [results, Tryd.results15, go_sem, hcw4, hzw4, hcw2, hzw2, hne]) rfl ⟨_, zero0, by rw [hnone.out]; rfl, by rw [hnone.out]; rfl, tk_nil _ 0 (Nat.zero_le _), ?_⟩
              exact set6 (belowT ((belowT hBw.out hb2.out).setCell (p := ⟨w1.heap.size, 5, none⟩) (Nat.le_of_lt hw1) _) hb4.out) (Nat.le_refl _) _ _ _ _ _ _
            · have hsome : Hid (decZ l = some { z with pl := M }) := Lib.hid (by rw [hdec', hr]; rfl)
              rw [hr] at hRt
              clear hdec'
              replace hr := Lib.hid hr
              go_wp2_with (first
                | (go_at_call 34
                   refine (hin.out _ hBw.out).mono ?_
                   rintro e w2 ⟨v', rfl, hF, hb2⟩
                   obtain ⟨va, vn, vc', rfl⟩ : ∃ a n c, v' = .slice a n c := by obtain ⟨a, c, h, -⟩ := hF.tks; exact ⟨a, _, c, h⟩
                   obtain ⟨oc2, of2, hw2⟩ := obj_cells ((hb2.block _ hwr).trans hO.out)
                   have hcw2 := fun o => ((bat hb2 w.heap.size hwr0).1 o).trans (hcw o)
                   have hzw2 := fun o => ((bat hb2 w.heap.size hwr0).2 o).trans (hzw o)
                   have hw20 : w.heap.size < w2.heap.size := Nat.lt_of_lt_of_le hwr0 hb2.size
                   have hne : (w.heap.size = w1.heap.size) = False := by simp; omega
                   replace hF := Lib.hid hF
                   replace hb2 := Lib.hid hb2)
                | (go_at_call 14
                   refine (hRt.out _ _ (hF.out.set hwr _).tks).mono ?_
                   rintro e w4 ⟨rfl, hb4⟩
                   have hs3 : (w2.setCell ⟨w1.heap.size, 5, none⟩ (.slice va vn vc')).heap.size = w2.heap.size := by simp [World.setCell]
                   obtain ⟨hcw4, hzw4⟩ := bat hb4 w.heap.size (by rw [hs3]; exact hw20)
                   obtain ⟨hcs4, -⟩ := bat hb4 w1.heap.size (by rw [hs3]; exact hw2)
                   replace hb4 := Lib.hid hb4
                   replace hs3 := Lib.hid hs3))
              refine bodyPost_ret (v := .tuple #[szV { z with pl := M } (.slice va vn vc'), .int .i64 0]) (by simp [szV, results, Tryd.results15, go_sem, hcw4, hzw4, hcw2, hzw2, hne]) rfl ⟨_, _, by rw [hsome.out]; rfl, by rw [hsome.out]; rfl, ((hF.out.set hwr _).below hb4.out).set6 hwr0 _ _ _ _ _ _, ?_⟩
              exact set6 (belowT ((belowT hBw.out hb2.out).setCell (p := ⟨w1.heap.size, 5, none⟩) (Nat.le_of_lt hw1) _) hb4.out) (Nat.le_refl _) _ _ _ _ _ _
end Go.Proofs.YtjpdadibeocpfaaDoor
