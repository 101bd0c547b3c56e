/-
  The children that meet what a closure asks (children), Kids and Below, by the program. Condition: at most 1000 edges.
-/
import Derived.Test.YtgodmppmiamhaaaCoAbove
namespace Go.Proofs.Ytgodmppmiamhaaa
set_option linter.unusedVariables false
set_option linter.unusedSimpArgs false
open Go.RowKit Go.MapKept Go.Shelf
theorem owns_below {w w' : World} {base : Nat} {e : TypeId} {size : Nat} {v : Value} {n : Nat} {xs : List Value} (h : w.ownsRow base e size v n xs) (hb : Below w.heap.size w w') : w'.ownsRow base e size v n xs := by
  refine ⟨h.1, ?_⟩
  rcases h.2 with h2 | ⟨g, cap, cur, h1, h2, h3, h4⟩
  · exact .inl h2
  · exact .inr ⟨g, cap, cur, h1, h2, (hb.block g (Array.getElem?_eq_some_iff.1 h3).1).trans h3, h4⟩
theorem owns_shp {w : World} {base : Nat} {e : TypeId} {size : Nat} {v : Value} {n : Nat} {xs : List Value} (h : w.ownsRow base e size v n xs) : ∃ a c, v = .slice a n c := by
  rcases h.2 with ⟨rfl, h0⟩ | ⟨g, cap, cur, rfl, _⟩
  · exact ⟨none, 0, by rw [h0]⟩
  · exact ⟨_, _, rfl⟩
def chE (E : Ats) (q : Txt × Txt → Bool) : List Txt := (E.filter q).map (·.1)
theorem chE_snoc {E : Ats} {q : Txt × Txt → Bool} {k : Nat} (h : k < E.length) : chE (E.take (k + 1)) q = chE (E.take k) q ++ (if q (E[k]'h) then [(E[k]'h).1] else []) := by
  unfold chE
  rw [List.take_add_one, List.getElem?_eq_getElem h, List.filter_append, List.map_append]
  congr 1
  simp [List.filter]
  cases q (E[k]'h) <;> simp
theorem chE_len (E : Ats) (q : Txt × Txt → Bool) (k : Nat) : (chE (E.take k) q).length ≤ k := by
  unfold chE
  rw [List.length_map]
  exact Nat.le_trans (List.length_filter_le _ _) (by simp; omega)
set_option maxHeartbeats 2000000 in
theorem children_any (v : Value) (E : Ats) (w : World) (hA : AtS w v E) (hl : E.length ≤ 1000) (g : Nat) (cb : Array Value) (q : Txt × Txt → Bool) (eg : ∀ args w, (callFunc g args).run Try.prog w = .ok (.enter g args) w)
    (hq : ∀ W e, Below w.heap.size w W → Calls Try.prog g (#[.agg #[.string ⟨e.1.toArray⟩, .string ⟨e.2.toArray⟩]] ++ cb) W fun r w' => r = .returned (.bool (q e)) ∧ Below W.heap.size W w') :
    Calls Try.prog 38 #[v, .func (.func g) #[] cb] w fun e w' => ∃ sv, e = .returned sv ∧ StS w' sv (chE E q) ∧ Below w.heap.size w w' := by
  obtain ⟨i0, hi, hz0, hz1, hz2⟩ := info_parts infoSt
  obtain ⟨ptr, cap, rfl, hc1, hc2, hat⟩ := hA
  obtain ⟨N, hN⟩ : ∃ N, E.length = N := ⟨_, rfl⟩
  have hN1 : N ≤ 1000 := by omega
  rw [hN]
  replace hN := Lib.hid hN
  replace hq := Lib.hid hq
  replace hat := Lib.hid hat
  clear hl hc1 hc2
  go_enter Try.func38, Try.ntmps38
  go_wp2
  go_loopw [5, 10] (fun s5 s10 wr => ∃ k : Nat, k ≤ N ∧ s10 = .int .i64 k ∧ Hid (wr.ownsRow w.heap.size 9 1 s5 (chE (E.take k) q).length (strC (chE (E.take k) q))) ∧ Hid (Below w.heap.size w wr)) (fun _ s10 _ => N - (intOf s10).toNat)
  case atStart => exact ⟨0, Nat.zero_le _, rfl, Lib.hid (World.ownsRow_nil _ _ _ _), Lib.hid (Below.refl _ _)⟩
  case round =>
    obtain ⟨k, hk, rfl, hO, hB⟩ := hrel
    by_cases hlt : k < N
    · have hk3 : k < E.length := by have := hN.out; omega
      obtain ⟨b, o, rfl, hb, hcc⟩ := hat.out (by omega)
      obtain ⟨d0, d1⟩ := hcc k hk3
      have kc := fun (j : Nat) => hB.out.cell (p := ⟨b, j, none⟩) hb
      replace d0 := (kc _).trans d0
      replace d1 := (kc _).trans d1
      clear kc hcc
      have hqk := fun W1 hb => hq.out W1 (E[k]'hk3) hb
      have hsn := chE_snoc (q := q) hk3
      have hfl := chE_len E q k
      generalize hE : E[k] = x at d0 d1 hqk hsn
      obtain ⟨ch, pa⟩ := x
      simp only at d0 d1 hqk hsn
      replace hE := Lib.hid hE
      have hki : (k : Int) < (N : Int) := by omega
      have hk0 : (0 : Int) ≤ (k : Int) := by omega
      have hbw : b < wr.heap.size := Nat.lt_of_lt_of_le hb hB.out.size
      have hsz := hB.out.size
      replace hfl := Lib.hid hfl
      replace hsz := Lib.hid hsz
      cases hx : q (ch, pa)
      · rw [hx] at hqk hsn
        replace hqk := Lib.hid hqk
        replace hsn := Lib.hid hsn
        go_wp2_with (go_at_fn g; refine (hqk.out _ (belowA hB.out _)).mono ?_; rintro e w1 ⟨rfl, hb1⟩; replace hb1 := Lib.hid hb1)
        go_roundw
        case rel =>
          refine ⟨k + 1, by omega, by simp, ?_, Lib.hid (belowT (belowA hB.out _) hb1.out)⟩
          rw [hsn.out, if_neg (by simp), List.append_nil]
          exact Lib.hid (owns_below hO.out (below1t hb1.out))
        case measure => simp [intOf]; omega
      · rw [hx] at hqk hsn
        rw [if_pos rfl] at hsn
        replace hqk := Lib.hid hqk
        replace hsn := Lib.hid hsn
        obtain ⟨na, nc, rfl⟩ := owns_shp hO.out
        go_wp2_with (first
          | (go_at_fn g; refine (hqk.out _ (belowA hB.out _)).mono ?_; rintro e w1 ⟨rfl, hb1⟩
             have e0 := ((bat hb1 wr.heap.size (by simp)).1 0).trans (by simp : _ = some (.string ⟨ch.toArray⟩))
             have hO1 := (owns_below hO.out (below1t hb1)).alloc (.cells #[.string ⟨ch.toArray⟩] 9)
             have hs1 : w.heap.size ≤ w1.heap.size := by have := hb1.size; have := hsz.out; simp only [World.size_alloc] at *; omega
             replace hO1 := Lib.hid hO1
             replace hs1 := Lib.hid hs1
             replace hb1 := Lib.hid hb1)
          | (at_builtin; refine wpList_append_own _ rfl _ _ 35 rfl w.heap.size 9 i0 _ 1 16 Try.underlying35 hi hz0 hz1 hz2 rfl (by decide) _ _ _ rfl hO1.out ⟨w1.heap.size, 0, none⟩ 1 1 [.string ⟨ch.toArray⟩] rfl rfl (cell_one_new _ _ _) (by simp [Value.oneCell']) (by have := hfl.out; unfold maxLen; omega) (by have := hfl.out; omega) (by have := hs1.out; simp only [World.size_alloc]; omega) ?_
             intro v' w2 hO2 hg2 _
             have hb2 := (belowA (belowT (belowA hB.out _) hb1.out) (.cells #[.string ⟨ch.toArray⟩] 9)).grown hg2 (by have := hs1.out; simp only [World.size_alloc]; omega) (fun k hk => (hO1.out.lt k hk).1)
             replace hO2 := Lib.hid hO2
             replace hb2 := Lib.hid hb2))
        go_roundw
        case rel =>
          refine ⟨k + 1, by omega, by simp, ?_, hb2⟩
          rw [hsn.out, List.length_append]
          simpa [strC] using hO2
        case measure => simp [intOf]; omega
    · obtain rfl : k = N := by omega
      have e4 : E.take k = E := List.take_of_length_le (by have := hN.out; omega)
      rw [e4] at hO
      obtain ⟨na, nc, rfl⟩ := owns_shp hO.out
      have hki : ¬ (k : Int) < (k : Int) := by omega
      go_wp2
      go_ret
      exact ⟨_, rfl, owns_sts hO.out, hB.out⟩
theorem kids1_any (e : Txt × Txt) (s : Txt) (B : Nat) (W : World) (hbl : W.heap[B]? = some (.cells #[.string ⟨s.toArray⟩] 9)) :
    Calls Try.prog 41 #[.agg #[.string ⟨e.1.toArray⟩, .string ⟨e.2.toArray⟩], .pointer (some ⟨B, 0, none⟩)] W fun r w' => r = .returned (.bool (e.2 == s)) ∧ Below W.heap.size W w' := by
  obtain ⟨lc, -, ll⟩ := obj_cells hbl
  obtain ⟨ch, pa⟩ := e
  simp only
  clear hbl
  go_enter Try.func41, Try.ntmps41
  go_wp2
  go_ret
  exact ⟨rfl, below1 _ _⟩
theorem below1_any (v : Value) (E : Ats) (e : Txt × Txt) (s : Txt) (Bl Bs : Nat) (W : World) (hA : AtS W v E) (hl : E.length ≤ 1000) (hs : sortE E) (hbl : W.heap[Bl]? = some (.cells #[v] 23)) (hbs : W.heap[Bs]? = some (.cells #[.string ⟨s.toArray⟩] 9)) :
    Calls Try.prog 39 #[.agg #[.string ⟨e.1.toArray⟩, .string ⟨e.2.toArray⟩], .pointer (some ⟨Bl, 0, none⟩), .pointer (some ⟨Bs, 0, none⟩)] W fun r w' => r = .returned (.bool (isUpE E s e.1)) ∧ Below W.heap.size W w' := by
  obtain ⟨lc, -, ll⟩ := obj_cells hbl
  obtain ⟨sc, -, sl⟩ := obj_cells hbs
  have hu : Hid (∀ W1, Below W.heap.size W W1 → Calls Try.prog 30 #[v, .string ⟨s.toArray⟩, .string ⟨e.1.toArray⟩] W1 fun r w' => r = .returned (.bool (isUpE E s e.1)) ∧ Below W1.heap.size W1 w') := Lib.hid fun W1 hb => isUp_any v E s e.1 W1 (hA.below hb) hl hs
  obtain ⟨p, cap, rfl, -⟩ := hA
  obtain ⟨ch, pa⟩ := e
  simp only at hu ⊢
  clear hbl hbs
  go_enter Try.func39, Try.ntmps39
  go_wp2_with (go_at_call 30; refine (hu.out _ (below1 _ _)).mono ?_; rintro e w1 ⟨rfl, hb1⟩; replace hb1 := Lib.hid hb1)
  go_ret
  exact ⟨rfl, below1t hb1.out⟩
theorem kids_any (v : Value) (E : Ats) (s : Txt) (w : World) (hA : AtS w v E) (hl : E.length ≤ 1000) :
    Calls Try.prog 19 #[v, .string ⟨s.toArray⟩] w fun e C => ∃ sv, e = .returned sv ∧ StS C sv (kidsE E s) ∧ Below w.heap.size w C := by
  have eg := enters_of (P := Try.prog) Try.func41 (by kernel_rfl) rfl
  obtain ⟨vp, vc, rfl⟩ : ∃ a c, v = .slice a E.length c := by obtain ⟨a, c, h, -⟩ := hA; exact ⟨a, c, h⟩
  have hA1 := hA.below (below1 w (.cells #[.string ⟨s.toArray⟩] 9))
  have hR := Lib.hid (coRight_any _ E _ hA1 hl)
  by_cases hr : rightE E = true
  · have hu : Hid (kidsE E s = chE E fun e => e.2 == s) := Lib.hid (by simp [kidsE, hr, chE])
    have hC : ∀ W1, Below (w.alloc (.cells #[.string ⟨s.toArray⟩] 9)).heap.size (w.alloc (.cells #[.string ⟨s.toArray⟩] 9)) W1 → Calls Try.prog 38 #[.slice vp E.length vc, .func (.func 41) #[] #[.pointer (some ⟨w.heap.size, 0, none⟩)]] W1 fun e w' => ∃ sv, e = .returned sv ∧ StS w' sv (chE E fun e => e.2 == s) ∧ Below W1.heap.size W1 w' := fun W1 hb =>
      children_any _ E W1 (hA1.below hb) hl 41 _ _ eg (fun W e hb2 => kids1_any e s w.heap.size W ((hb2.block _ (Nat.lt_of_lt_of_le (by simp) hb.size)).trans ((hb.block _ (by simp)).trans (heap_alloc w _).1)))
    replace hC := Lib.hid hC
    clear hA hA1
    go_enter Try.func19, Try.ntmps19
    go_wp2_with (first
      | (go_at_call 11; refine hR.out.mono ?_; rintro e w1 ⟨rfl, hb1⟩; rw [hr]; replace hb1 := Lib.hid hb1)
      | (go_at_call 38; refine (hC.out _ hb1.out).mono ?_; rintro e w3 ⟨sv, rfl, hS, hb3⟩; obtain ⟨na, nn, nc, rfl⟩ : ∃ a n c', sv = .slice a n c' := (by obtain ⟨a, c, h, -⟩ := hS; exact ⟨a, _, c, h⟩); replace hS := Lib.hid hS; replace hb3 := Lib.hid hb3))
    go_ret
    rw [hu.out]
    exact ⟨_, rfl, hS.out, (below1t hb1.out).trans (hb3.out.mono (Nat.le_trans (by simp) hb1.out.size))⟩
  · have hr' : rightE E = false := by simpa using hr
    have hu : Hid (kidsE E s = []) := Lib.hid (by simp [kidsE, hr'])
    clear hA hA1
    go_enter Try.func19, Try.ntmps19
    go_wp2_with (go_at_call 11; refine hR.out.mono ?_; rintro e w1 ⟨rfl, hb1⟩; rw [hr']; replace hb1 := Lib.hid hb1)
    go_ret
    rw [hu.out]
    exact ⟨_, rfl, sts_nil _, below1t hb1.out⟩
theorem below_any (v : Value) (E : Ats) (s : Txt) (w : World) (hA : AtS w v E) (hl : E.length ≤ 1000) :
    Calls Try.prog 16 #[v, .string ⟨s.toArray⟩] w fun e C => ∃ sv, e = .returned sv ∧ StS C sv (belowE E s) ∧ Below w.heap.size w C := by
  have eg := enters_of (P := Try.prog) Try.func39 (by kernel_rfl) rfl
  obtain ⟨vp, vc, rfl⟩ : ∃ a c, v = .slice a E.length c := by obtain ⟨a, c, h, -⟩ := hA; exact ⟨a, c, h⟩
  obtain ⟨w0, hw0⟩ : ∃ w0, (w.alloc (.cells #[.slice vp E.length vc] 23)).alloc (.cells #[.string ⟨s.toArray⟩] 9) = w0 := ⟨_, rfl⟩
  have hb0 : Below w.heap.size w w0 := by rw [← hw0]; exact belowA (below1 _ _) _
  have hA1 := hA.below hb0
  have hR := Lib.hid (coRight_any _ E _ hA1 hl)
  have hbl : w0.heap[w.heap.size]? = some (.cells #[.slice vp E.length vc] 23) := by rw [← hw0]; exact obj_alloc (heap_alloc _ _).1
  have hbs : w0.heap[w.heap.size + 1]? = some (.cells #[.string ⟨s.toArray⟩] 9) := by
    rw [← hw0]
    have := (heap_alloc (w.alloc (.cells #[.slice vp E.length vc] 23)) (.cells #[.string ⟨s.toArray⟩] 9)).1
    rwa [World.size_alloc] at this
  have l0 := (Array.getElem?_eq_some_iff.1 hbl).1
  have l1 := (Array.getElem?_eq_some_iff.1 hbs).1
  have hkp : ∀ W1, Below w0.heap.size w0 W1 → W1.cell? ⟨w.heap.size, 0, none⟩ = some (.slice vp E.length vc) ∧ w.heap.size < W1.heap.size := fun W1 hb => ⟨((bat hb _ l0).1 0).trans ((obj_cells hbl).1 0), Nat.lt_of_lt_of_le l0 hb.size⟩
  by_cases hr : rightE E = true
  · have hu : Hid (belowE E s = chE E fun e => isUpE E s e.1) := Lib.hid (by simp [belowE, hr, chE])
    have hs := (right_parts hr).2.2.1
    have hC : ∀ W1, Below w0.heap.size w0 W1 → Calls Try.prog 38 #[.slice vp E.length vc, .func (.func 39) #[] #[.pointer (some ⟨w.heap.size, 0, none⟩), .pointer (some ⟨w.heap.size + 1, 0, none⟩)]] W1 fun e w' => ∃ sv, e = .returned sv ∧ StS w' sv (chE E fun e => isUpE E s e.1) ∧ Below W1.heap.size W1 w' := fun W1 hb =>
      children_any _ E W1 (hA1.below hb) hl 39 _ _ eg (fun W e hb2 => below1_any _ E e s w.heap.size (w.heap.size + 1) W ((hA1.below hb).below hb2) hl hs ((hb2.block _ (Nat.lt_of_lt_of_le l0 hb.size)).trans ((hb.block _ l0).trans hbl)) ((hb2.block _ (Nat.lt_of_lt_of_le l1 hb.size)).trans ((hb.block _ l1).trans hbs)))
    replace hC := Lib.hid hC
    replace hkp := Lib.hid hkp
    clear hA hA1 hbl hbs l0 l1
    replace hb0 := Lib.hid hb0
    subst hw0
    go_enter Try.func16, Try.ntmps16
    go_wp2_with (first
      | (go_at_call 11; refine hR.out.mono ?_; rintro e w1 ⟨rfl, hb1⟩; rw [hr]; obtain ⟨e0, e1⟩ := hkp.out _ hb1; replace hb1 := Lib.hid hb1)
      | (go_at_call 38; refine (hC.out _ hb1.out).mono ?_; rintro e w3 ⟨sv, rfl, hS, hb3⟩; obtain ⟨na, nn, nc, rfl⟩ : ∃ a n c', sv = .slice a n c' := (by obtain ⟨a, c, h, -⟩ := hS; exact ⟨a, _, c, h⟩); replace hS := Lib.hid hS; replace hb3 := Lib.hid hb3))
    go_ret
    rw [hu.out]
    exact ⟨_, rfl, hS.out, belowT hb0.out ((belowT (Below.refl _ _) hb1.out).trans (hb3.out.mono hb1.out.size))⟩
  · have hr' : rightE E = false := by simpa using hr
    have hu : Hid (belowE E s = []) := Lib.hid (by simp [belowE, hr'])
    clear hA hA1 hbl hbs l0 l1 hkp
    replace hb0 := Lib.hid hb0
    subst hw0
    go_enter Try.func16, Try.ntmps16
    go_wp2_with (go_at_call 11; refine hR.out.mono ?_; rintro e w1 ⟨rfl, hb1⟩; rw [hr']; replace hb1 := Lib.hid hb1)
    go_ret
    rw [hu.out]
    exact ⟨_, rfl, sts_nil _, belowT hb0.out hb1.out⟩
end Go.Proofs.Ytgodmppmiamhaaa
