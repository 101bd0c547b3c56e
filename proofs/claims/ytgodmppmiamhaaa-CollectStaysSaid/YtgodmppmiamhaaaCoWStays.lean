/-
  The walk of CollectStays.
-/
import Derived.Test.YtgodmppmiamhaaaCoWAdds
import Derived.Test.YtgodmppmiamhaaaOpenPr
import Derived.Deep.RegionLaw
namespace Go.Proofs.Ytgodmppmiamhaaa
set_option linter.unusedVariables false
set_option linter.unusedSimpArgs false
open Go.RowKit Go.MapKept Go.Shelf
attribute [local go_sem] setCell_drewN alloc_drewN drewN_drewN drew_drewN drewN_drew mk_get lt2 lt3 lt4 lt5 lt6 lt7 lt8
def ltr (c : UInt8) : UInt8 := UInt8.ofNat (97 + c.toNat % 9)
theorem ltr_nat (c : UInt8) : (ltr c).toNat = 97 + c.toNat % 9 := by
  unfold ltr
  simp
  omega
theorem ltr_int (c : UInt8) : IntKind.u8.wrap (97 + ((c.toNat : Int)).tmod 9) = ((ltr c).toNat : Int) := by
  have hc := c.toNat_lt
  rw [ltr_nat]
  have w8 : ∀ x : Int, 0 ≤ x → IntKind.u8.wrap x = x % 256 := fun x hx => by simp [IntKind.wrap, IntKind.bits, IntKind.signed] <;> omega
  rw [Int.tmod_eq_emod_of_nonneg (by omega), w8 _ (by omega)]
  omega
theorem conv_one (W : World) (g : Nat) (c : UInt8) (h : W.heap[g]? = some (.cells #[.int .u8 (c.toNat : Int)] 5)) : (convert 25 9 (.slice (some ⟨g, 0, none⟩) 1 1)).run Try.prog W = .ok (.string ⟨#[c]⟩) W :=
  U8Row.back (xs := [c]) ⟨fun j hj => by obtain rfl : j = 0 := by simpa using hj
                                         simp [(obj_cells h).1], fun j hj => by obtain rfl : j = 0 := by simpa using hj
                                                                                simp [(obj_cells h).2.1]⟩ 25 9 5 Try.underlying25 Try.underlying5 Try.underlying9 1
theorem prs_cell {W : World} {a : Option Addr} {n c : Nat} {l : List (UInt8 × UInt8)} (h : PrS W (.slice a n c) l) {k : Nat} (hk : k < l.length) : ∃ b o, a = some ⟨b, o, none⟩ ∧ b < W.heap.size ∧ W.cell? ⟨b, o + k * 2, none⟩ = some (.int .u8 (l[k]'hk).1.toNat) ∧ W.cell? ⟨b, o + k * 2 + 1, none⟩ = some (.int .u8 (l[k]'hk).2.toNat) := by
  obtain ⟨p, cp, he, h1, h2, h3⟩ := h
  injection he with e1 e2 e3
  subst e1
  obtain ⟨b, o, rfl, hb, hc⟩ := h3 (by omega)
  exact ⟨b, o, rfl, hb, (hc k hk).1, (hc k hk).2⟩
theorem PrS.below {w w' : World} {v : Value} {l : List (UInt8 × UInt8)} (h : PrS w v l) (hb : Below w.heap.size w w') : PrS w' v l := by
  obtain ⟨p, c, h1, h2, h3, h4⟩ := h
  refine ⟨p, c, h1, h2, h3, fun h0 => ?_⟩
  obtain ⟨b, o, e, hbl, hc⟩ := h4 h0
  exact ⟨b, o, e, Nat.lt_of_lt_of_le hbl hb.size, fun i hi => ⟨(hb.cell (p := ⟨b, o + i * 2, none⟩) hbl).trans (hc i hi).1, (hb.cell (p := ⟨b, o + i * 2 + 1, none⟩) hbl).trans (hc i hi).2⟩⟩
theorem add_code {E : Ats} (hr : rightE E = true) (c p : Txt) (hc : c ≠ []) (hp : p ≠ []) (hl : E.length < 64) : (addE E c p).2 = 0 ∨ (addE E c p).2 = 9 := by
  unfold addE
  rw [if_neg (by simp [hc, hp, hr])]
  split
  · exact .inr rfl
  · rw [if_neg (by omega)]
    exact .inl rfl
theorem al_new (w : World) (o : Obj) : (w.alloc o).heap[w.heap.size]? = some o := by
  show (w.heap.push o)[w.heap.size]? = some o
  simp
theorem al_new1 (w : World) (o1 o : Obj) : ((w.alloc o1).alloc o).heap[w.heap.size + 1]? = some o := by
  have := al_new (w.alloc o1) o
  simpa using this
set_option maxHeartbeats 4000000 in
theorem stays_of (v : Value) (l : List (UInt8 × UInt8)) (w : World) (hA : PrS w v l) :
    Calls Try.prog 3 #[v] w fun e w' => e = .returned (.bool true) ∧ Below w.heap.size w w' := by
  have hLive := Lib.hid live_any
  obtain ⟨n, hN⟩ : ∃ n, l.length = n := ⟨_, rfl⟩
  obtain ⟨va, vc, rfl⟩ : ∃ a c, v = .slice a n c := by obtain ⟨a, c, h, -⟩ := hA; exact ⟨a, c, hN ▸ h⟩
  replace hN := Lib.hid hN
  replace hA := Lib.hid hA
  go_enter Try.func3, Try.ntmps3
  go_wp2
  go_loopw [3, 4] (fun s3 s4 wr => ∃ (k : Nat) (E : Ats) (a : Option Addr) (c : Nat), k ≤ n ∧ k ≤ 60 ∧ s4 = .int .i64 k ∧ s3 = .slice a E.length c ∧ E.length ≤ k ∧ Hid (AtS wr (.slice a E.length c) E) ∧ Hid (rightE E = true) ∧ Hid (Below w.heap.size w wr)) (fun _ s4 _ => n - (intOf s4).toNat)
  case atStart => exact ⟨0, [], none, 0, Nat.zero_le _, Nat.zero_le _, rfl, rfl, Nat.le_refl _, Lib.hid (sN _), Lib.hid rfl, Lib.hid (Below.refl _ _)⟩
  case round =>
    obtain ⟨k, E, ea, ec, hk, hk60, rfl, rfl, hEk, hE, hR, hX⟩ := hrel
    by_cases hlt : k < n
    · have hki : (k : Int) < (n : Int) := by omega
      by_cases h60 : k < 60
      · have h60i : (k : Int) < 60 := by omega
        have hk3 : k < l.length := by have := hN.out; omega
        obtain ⟨b, o, rfl, hbb, d0, d1⟩ := prs_cell (hA.out.below hX.out) hk3
        generalize hq : l[k] = q at d0 d1
        clear hq
        obtain ⟨x, y⟩ := q
        simp only at d0 d1
        have hv0 := ltr_int x
        have hv1 := ltr_int y
        have hk0 : (0 : Int) ≤ (k : Int) := by omega
        have hP1 := fun (W1 : World) (h : Below wr.heap.size wr W1) => add_any _ E [ltr x] [ltr y] W1 (hE.out.below h) (by omega)
        have hlen := add_len E [ltr x] [ltr y]
        have hok := add_ok (E := E) (c := [ltr x]) (p := [ltr y])
        have hrt := add_right (E := E) (c := [ltr x]) (p := [ltr y])
        have her := add_err (E := E) (c := [ltr x]) (p := [ltr y])
        have hcd := add_code hR.out [ltr x] [ltr y] (by simp) (by simp) (by omega)
        generalize addE E [ltr x] [ltr y] = r at hP1 hlen hok hrt her hcd
        obtain ⟨m, e⟩ := r
        simp only at hlen hok hrt her hcd
        replace hP1 := Lib.hid hP1
        replace hok := Lib.hid hok
        replace hrt := Lib.hid hrt
        replace her := Lib.hid her
        replace hcd := Lib.hid hcd
        have hdr := hX.out.drew
        go_upto_region 5 with (fail)
        go_cut [5, 6] (fun v5 v6 W => v5 = .string ⟨#[ltr x]⟩ ∧ v6 = .string ⟨#[ltr y]⟩ ∧ Below wr.heap.size wr W)
        case first =>
          have hc1 := conv_one (wr.alloc (.cells #[.int .u8 ((ltr x).toNat : Int)] 5)).drew wr.heap.size (ltr x) (al_new _ _)
          have hc2 := conv_one ((wr.alloc (.cells #[.int .u8 ((ltr x).toNat : Int)] 5)).alloc (.cells #[.int .u8 ((ltr y).toNat : Int)] 5)).drew wr.heap.size (ltr x) (obj_alloc (al_new _ _))
          have hc3 := conv_one ((wr.alloc (.cells #[.int .u8 ((ltr x).toNat : Int)] 5)).alloc (.cells #[.int .u8 ((ltr y).toNat : Int)] 5)).drew (wr.heap.size + 1) (ltr y) (al_new1 _ _ _)
          have hc4 := conv_one (wr.alloc (.cells #[.int .u8 ((ltr y).toNat : Int)] 5)).drew wr.heap.size (ltr y) (al_new _ _)
          have hc5 := conv_one ((wr.alloc (.cells #[.int .u8 ((ltr y).toNat : Int)] 5)).alloc (.cells #[.int .u8 ((ltr x).toNat : Int)] 5)).drew wr.heap.size (ltr y) (obj_alloc (al_new _ _))
          have hc6 := conv_one ((wr.alloc (.cells #[.int .u8 ((ltr y).toNat : Int)] 5)).alloc (.cells #[.int .u8 ((ltr x).toNat : Int)] 5)).drew (wr.heap.size + 1) (ltr x) (al_new1 _ _ _)
          go_region_law (fail)
          all_goals go_wp2_with fail
          all_goals go_meet
          all_goals exact ⟨rfl, rfl, (belowA (below1 wr _) _).drew⟩
        case rest =>
          obtain ⟨rfl, rfl, hY⟩ := hcut
          have hE2 := Lib.hid (hE.out.below hY)
          have hX2 := Lib.hid (belowT hX.out hY)
          replace hY := Lib.hid hY
          clear d0 d1 hv0 hv1 hdr
          have hm1000 : m.length ≤ 1000 := by omega
          by_cases he : e = 0
          · subst he
            have hr2 := hrt.out rfl
            obtain ⟨-, -, -, -, -, -, hmi⟩ := hok.out rfl
            have hpar : parR m [ltr x] = some [ltr y] := by
              rw [parR, if_pos hr2, hmi, par_ins, if_pos rfl]
            have hC := fun (v : Value) W1 (h : AtS W1 v m) => coRight_any v m W1 h hm1000
            have hPar := fun (v : Value) W1 (h : AtS W1 v m) => coParent_any v m [ltr x] W1 h hm1000
            rw [hr2] at hC
            rw [hpar] at hPar
            replace hC := Lib.hid hC
            replace hPar := Lib.hid hPar
            replace hr2 := Lib.hid hr2
            clear hmi hpar hcd her
            go_wp2_with (first
              | (go_at_call 10; refine (hP1.out _ hY.out).mono ?_; rintro e w3 ⟨⟨sv3, rfl, hA3⟩, hb3⟩; obtain ⟨a3, c3, rfl⟩ : ∃ a c', sv3 = .slice a m.length c' := (by obtain ⟨a, c, h, -⟩ := hA3; exact ⟨a, c, h⟩); replace hA3 := Lib.hid hA3; replace hb3 := Lib.hid (belowT hX2.out hb3))
              | (go_at_call 11; refine (hC.out _ _ hA3.out).mono ?_; rintro e w4 ⟨rfl, hb4⟩; replace hA3 := Lib.hid (hA3.out.below hb4); replace hb4 := Lib.hid (belowT hb3.out hb4))
              | (go_at_call 12; refine (hPar.out _ _ hA3.out).mono ?_; rintro e w5 ⟨rfl, hb5⟩; replace hA3 := Lib.hid (hA3.out.below hb5); replace hb5 := Lib.hid (belowT hb4.out hb5)))
            go_roundw
            case rel => exact ⟨k + 1, m, a3, c3, by omega, by omega, by simp, rfl, by omega, hA3, hr2, hb5⟩
            case measure => simp [intOf]; omega
          · obtain rfl : e = 9 := hcd.out.resolve_left he
            have hmn := her.out he
            subst hmn
            clear he hcd her
            go_wp2_with (go_at_call 10; refine (hP1.out _ hY.out).mono ?_; rintro e w3 ⟨⟨sv3, rfl, hA3⟩, hb3⟩; obtain ⟨a3, c3, rfl⟩ : ∃ a c', sv3 = .slice a 0 c' := (by obtain ⟨a, c, h, -⟩ := hA3; exact ⟨a, c, h⟩); replace hA3 := Lib.hid hA3; replace hE2 := Lib.hid (hE2.out.below hb3); replace hb3 := Lib.hid (belowT hX2.out hb3))
            go_roundw
            case rel => exact ⟨k + 1, E, ea, ec, by omega, by omega, by simp, rfl, by omega, hE2, hR, hb3⟩
            case measure => simp [intOf]; omega
      · have h60i : ¬ (k : Int) < 60 := by omega
        go_wp2_with (go_at_call 13; refine (hLive.out _).mono ?_; rintro e w9 ⟨rfl, hbn⟩; have hb9 := Lib.hid (belowT hX.out hbn); clear hbn)
        go_ret
        exact ⟨rfl, hb9.out⟩
    · have hki : ¬ (k : Int) < (n : Int) := by omega
      go_wp2_with (go_at_call 13; refine (hLive.out _).mono ?_; rintro e w9 ⟨rfl, hbn⟩; have hb9 := Lib.hid (belowT hX.out hbn); clear hbn)
      go_ret
      exact ⟨rfl, hb9.out⟩
theorem collectStays_walk (v : Value) (l : List (UInt8 × UInt8)) (w : World) (hA : PrS w v l) :
    Calls Try.prog 3 #[v] w fun e w' => e = .returned (.bool true) ∧ Below w.heap.size w w' := stays_of v l w hA
end Go.Proofs.Ytgodmppmiamhaaa
