/-
  A text with entities is read back (text.Unescape). Condition: the text shorter than the reach.
-/
import Derived.Test.YtjpdadibeocpfaaDoorPrEnt
import Derived.Test.YtjpdadibeocpfaaDoorPrByte
import Derived.Test.YtjpdadibeocpfaaDoorPrCut
namespace Go.Proofs.YtjpdadibeocpfaaDoor
set_option linter.unusedVariables false
set_option linter.unusedSimpArgs false
open Go.RowKit Go.MapKept Go.Maps Go.Proofs
attribute [local go_sem] mk_get
theorem eC_inj : ∀ k, k < 5 → ∀ m, m < 5 → eC k = eC m → k = m := by decide
def strLen : Value → Nat
  | .string s => s.size
  | _ => 0
theorem zeroU8 (w : World) : (zeroValue 5).run Tryd.prog w = .ok (.int .u8 0) w := by kernel_rfl
theorem nam_full {ks : List Nat} (h : ∀ k, k < 5 → ks.contains k = true) (hl : ∀ k ∈ ks, k < 5) {k : Nat} (hk : k < 5) : findKV .string (.string ⟨(eN k).toArray⟩) (namKV ks) = some (.int .u8 ((eC k).toNat : Int)) := by
  rw [nam_find hk ks hl, h k hk]; rfl
theorem Turned.grows {b : Nat} {w w1 : World} (h : Turned b w w1) : w.grownBy w1 (some b) := ⟨h.os, h.tape, h.output, by rw [h.size]; exact Nat.le_refl _, fun i _ hi => h.other i (fun e => hi (by rw [e]))⟩
theorem isB_bl {T e : TypeId} {B b : Nat} {bs : List Value} {W W' : World} (h : Lib.IsBuilderF T e B b bs W) (hd : ∃ n, W' = W.drewN n) : Lib.IsBuilderF T e B b bs W' := by
  obtain ⟨n, rfl⟩ := hd
  exact h
theorem Ents.belowB {w w1 : World} {b B : Nat} {kv : List (Value × Value)} (h : Ents w b kv) (hb : Below B w w1) (hlt : b < B) : Ents w1 b kv := by
  obtain ⟨es, clock, h1, h2⟩ := h
  exact ⟨es, clock, (hb.block b hlt).trans h1, h2⟩
theorem esc_suf (a r : List UInt8) : (escL r).length ≤ (escL (a ++ r)).length := by
  unfold escL
  rw [List.flatMap_append, List.length_append]
  omega
set_option maxRecDepth 100000 in
set_option maxHeartbeats 8000000 in
theorem unescape_any (t : List UInt8) (w : World) (hs : (escL t).length ≤ 140737488351232) :
    Calls Tryd.prog 48 #[.string ⟨(escL t).toArray⟩] w fun e w' => e = .returned (.tuple #[.string ⟨t.toArray⟩, .int .i64 0]) ∧ Below w.heap.size w w' := by
  have hge := esc_ge t
  have hmm := @run_makeMap Tryd.prog
  go_enter Tryd.func48, Tryd.ntmps48
  go_wp2_with (first
    | (go_at_call 40; refine (entities_any _).mono ?_; rintro e w1 ⟨rfl, rfl⟩)
    | (at_range; refine wpList_range_own _ rfl _ 91 rfl 5 9 lawB Tryd.underlying91 RS (w.heap.size + 1) 5 entD rfl (ent_own (by have := (heap_alloc (w.alloc (.map #[] 0)) (.map entE 5)).1; simpa using this)) ?_; intro w7 hrg7 hg7 hs7; replace hrg7 := Lib.hid hrg7; replace hg7 := Lib.hid hg7; replace hs7 := Lib.hid hs7))
  try go_frame
  rw [show ((w.alloc (.map #[] 0)).alloc (.map entE 5)).heap.size = w.heap.size + 1 + 1 from by simp]
  go_loopw [20] (fun s20 wr => ∃ (left : Lit → Bool) (cnt : Nat) (ks : List Nat), Hid (wr.ranges Tryd.prog 5 RS (w.heap.size + 1) (w.heap.size + 1 + 1) 5 entD left cnt) ∧ Hid (Ents wr w.heap.size (namKV ks)) ∧ Hid (∀ k ∈ ks, k < 5) ∧ Hid (∀ k, k < 5 → left (.int .u8 ((eC k).toNat : Int)) = !(ks.contains k)) ∧ Hid (∀ x : Int, left (.int .u8 x) = true → ∃ k, k < 5 ∧ x = ((eC k).toNat : Int)) ∧ Hid (Below w.heap.size w wr)) (fun _ wr => wr.rangeLeft (w.heap.size + 1) (w.heap.size + 1 + 1))
  case atStart =>
    have hb7 : Below w.heap.size w w7 := by
      have h1 := below1t (below1t (w := w.alloc (.map #[] 0)) (o := .map entE 5) (Below.refl _ _))
      exact h1.grown hg7.out (by simp; omega) (fun j e => by cases e)
    have hE7 : Ents w7 w.heap.size (namKV []) := ((Ents.made w).alloc (.map entE 5)).grown hg7.out (by simp)
    refine ⟨_, _, [], by simpa using hrg7, Lib.hid hE7, Lib.hid (fun k h => by cases h), Lib.hid (fun k hk => ?_), Lib.hid (fun x hx => (ent_has x).1 hx), Lib.hid hb7⟩
    rw [(ent_has _).2 ⟨k, hk, rfl⟩]; rfl
  case round =>
    obtain ⟨left, cnt, ks, hrg, hE, hks, hlk, hli, hB⟩ := hrel
    have hsz : Hid (w.heap.size + 1 + 1 < wr.heap.size) := Lib.hid hrg.out.lt
    go_wp2_with (first
      | (at_next
         go_loud
          (refine wpList_next_ranges_is _ rfl _ rfl 5 9 .u8 lawB Tryd.underlying5 Tryd.underlying9 (w.heap.size + 1) (w.heap.size + 1 + 1) 5 entD left cnt rfl hrg.out ?_ ?_
           (intro hc0 hl0; replace hl0 := Lib.hid hl0; have tokA := Lib.hid True.intro)
           rotate_left
           (intro x c w8 cnt8 hwf8 hsz8 hlk8 hat8 hrg8 hlt8 hg8 hs8 hen8
            obtain ⟨k, hk, rfl⟩ := hli.out x hlk8
            have hat9 := (hat8 .nil).symm.trans (ent_at k hk .nil)
            obtain ⟨cl, rfl, hcl⟩ := byte_str c
            obtain rfl : cl = eN k := by
              simp only [DataW.lit.injEq, Lit.string.injEq] at hat9
              rw [hcl]; exact hat9
            have hnk : ks.contains k = false := by
              have := hlk.out k hk
              rw [hlk8] at this
              cases h : ks.contains k with
              | false => rfl
              | true => rw [h] at this; cases this
            have hE8 := hE.out.grown hg8 (by intro e; have := Option.some.inj e; omega)
            obtain ⟨w9, hst9, hE9, hT9⟩ := store_ents (P := Tryd.prog) Tryd.underlying112 Tryd.underlying9 hE8 (nam_keys ks) (key := .string ⟨(eN k).toArray⟩) trivial (by rw [nam_find hk ks hks.out, hnk]; rfl) (.int .u8 ((eC k).toNat : Int))
            replace hlk8 := Lib.hid hlk8
            replace hrg8 := Lib.hid hrg8
            replace hg8 := Lib.hid hg8
            replace hs8 := Lib.hid hs8
            replace hE9 := Lib.hid hE9
            replace hT9 := Lib.hid hT9
            replace hnk := Lib.hid hnk
            replace hk := Lib.hid hk
            clear hwf8 hsz8 hat8 hat9 hcl hE8)
           rotate_left)))
    · have hfull : Hid (∀ k, k < 5 → findKV .string (.string ⟨(eN k).toArray⟩) (namKV ks) = some (.int .u8 ((eC k).toNat : Int))) := Lib.hid fun k hk => nam_full (fun m hm => by
        have := hlk.out m hm
        rw [hl0.out] at this
        cases h : ks.contains m with
        | true => rfl
        | false => rw [h] at this; cases this) hks.out hk
      rename World => wo
      go_loopw [0] (fun s0 wx => ∃ a r : List UInt8, Hid (a ++ r = t) ∧ s0 = .string ⟨(escL r).toArray⟩ ∧ Hid (Lib.IsBuilderF 60 5 wo.heap.size wo.heap.size (Lib.byteCells a) wx) ∧ Hid (Ents wx w.heap.size (namKV ks)) ∧ Hid (Below wo.heap.size wo wx)) (fun s0 _ => strLen s0)
      case atStart =>
        exact ⟨[], t, Lib.hid rfl, rfl, Lib.hid (Lib.IsBuilderF.of (Lib.fresh_isBuilder _ _ wo)), Lib.hid (hE.out.alloc _), Lib.hid (below1 wo _)⟩
      case round =>
        obtain ⟨a, r, hat, rfl, hI, hEx, hBx⟩ := hrel
        have hla : Hid (a.length + r.length ≤ t.length) := Lib.hid (by rw [← hat.out, List.length_append]; exact Nat.le_refl _)
        have hlr : Hid ((escL r).length ≤ 140737488351232) := Lib.hid (by have := esc_suf a r; rw [hat.out] at this; omega)
        have hszx := hBx.out.size
        rcases mild_split r with hu | ⟨u, k, v, hk, hr, hu⟩
        · have hm := mild_esc hu
          obtain ⟨hn1, hn2⟩ := mild_no hu
          have hcut := Lib.hid (ycut_no hn1)
          have hidx := Lib.hid (index_no hn2)
          rw [hm] at hlr ⊢
          clear hm hu
          go_wp2_with (first
            | (go_at_call 43; refine (xcut_any r 38 _ hlr.out).mono ?_; rintro e w2 ⟨rfl, n2, rfl⟩; rw [hcut.out])
            | (go_at_call 61; refine (Tryd.strings_Contains_one ⟨r.toArray⟩ 60 _).mono ?_; rintro e w3 ⟨rfl, rfl⟩; rw [hidx.out])
            | (go_at_call 20; refine (writeStr_any wo.heap.size wo.heap.size a r (wr.drewN n2) (isB_bl hI.out ⟨n2, rfl⟩) (by have := hla.out; omega) (by exact hszx)).mono ?_; rintro e w4 ⟨rfl, hI4, hB4, hO4⟩; replace hI4 := Lib.hid hI4; replace hB4 := Lib.hid hB4; clear hO4)
            | (go_at_call 22; refine (string_any wo.heap.size wo.heap.size (a ++ r) _ hI4.out (Nat.le_trans hszx hB4.out.size)).mono ?_; rintro e w5 ⟨rfl, hB5⟩; replace hB5 := Lib.hid hB5))
          try rw [Exit.noGoto_ret]
          go_ret2
          exact ⟨ret_stri hat.out rfl, belowT hB.out (((belowN hBx.out n2).trans hB4.out).trans hB5.out)⟩
        · subst hr
          rw [esc_split hk hu] at hlr ⊢
          obtain ⟨hn1, hn2⟩ := mild_no hu
          have hcut := Lib.hid (ycut_at (r := eN k ++ 59 :: escL v) hn1)
          have hcut2 := Lib.hid (ycut_at (r := escL v) (eN_semi k hk))
          have hidx := Lib.hid (index_no hn2)
          have hfk := Lib.hid (hfull.out k hk)
          have hl1 : Hid (a.length + (u.length + 1 + v.length) ≤ t.length) := Lib.hid (by have := hla.out; rw [List.length_append, List.length_cons] at this; omega)
          have hl2 : Hid ((eN k ++ 59 :: escL v).length ≤ 140737488351232) := Lib.hid (by have := hlr.out; rw [List.length_append, List.length_cons] at this; omega)
          have hl3 : Hid ((escL v).length < (u ++ 38 :: (eN k ++ 59 :: escL v)).length) := Lib.hid (by simp only [List.length_append, List.length_cons]; omega)
          generalize hq : eN k ++ 59 :: escL v = q at hlr hcut hcut2 hl2 hl3 ⊢
          replace hq := Lib.hid hq
          have hsz' := hsz.out
          clear hu hn1 hn2 hk hla
          generalize hs1 : u ++ 38 :: q = s1 at hlr hcut hl3 ⊢
          replace hs1 := Lib.hid hs1
          go_wp2_with (first
            | (have m4 := hI4; clear m4; go_at_call 43; refine (xcut_any q 59 _ hl2.out).mono ?_; rintro e w5 ⟨rfl, n5, rfl⟩; rw [hcut2.out]
               have hlook := lookup_ents (P := Tryd.prog) (w := w4.drewN n5) true Tryd.underlying112 Tryd.underlying9 (zeroU8 _) (b := w.heap.size) hE4.out (nam_keys ks) (key := .string ⟨(eN k).toArray⟩) trivial
               rw [hfk.out] at hlook
               simp only [if_true, Option.getD_some, Option.isSome_some] at hlook)
            | (go_at_call 43; refine (xcut_any s1 38 _ hlr.out).mono ?_; rintro e w2 ⟨rfl, n2, rfl⟩; rw [hcut.out])
            | (go_at_call 61; refine (Tryd.strings_Contains_one ⟨u.toArray⟩ 60 _).mono ?_; rintro e w3 ⟨rfl, rfl⟩; rw [hidx.out])
            | (go_at_call 20; refine (writeStr_any wo.heap.size wo.heap.size a u (wr.drewN n2) (isB_bl hI.out ⟨n2, rfl⟩) (by have := hl1.out; omega) (by exact hszx)).mono ?_; rintro e w4 ⟨rfl, hI4, hB4, hO4⟩; have hE4 := Ents.belowB (w := wr.drewN n2) (b := w.heap.size) (show Ents (wr.drewN n2) _ _ from hEx.out) hB4 (by omega); replace hI4 := Lib.hid hI4; replace hB4 := Lib.hid hB4; replace hE4 := Lib.hid hE4; clear hO4)
            | (go_at_call 62; refine (writeByte_any wo.heap.size wo.heap.size (a ++ u) (eC k) (w4.drewN n5) (isB_bl hI4.out ⟨n5, rfl⟩) (by have := hl1.out; rw [List.length_append]; omega) (Nat.le_trans hszx hB4.out.size)).mono ?_; rintro e w6 ⟨rfl, hI6, hB6, hO6⟩; have hE6 := Ents.belowB (w := w4.drewN n5) (b := w.heap.size) (show Ents (w4.drewN n5) _ _ from hE4.out) hB6 (by omega); replace hI6 := Lib.hid hI6; replace hB6 := Lib.hid hB6; replace hE6 := Lib.hid hE6; clear hO6))
          go_roundw
          case rel =>
            refine ⟨a ++ u ++ [eC k], v, Lib.hid ?_, rfl, hI6, hE6, Lib.hid (((belowN hBx.out n2).trans hB4.out).trans ((belowN (Below.refl _ _) n5).trans hB6.out))⟩
            rw [← hat.out]; simp
          case measure => simpa [strLen, ByteArray.size] using hl3.out
    · have hrg9 : w9.ranges Tryd.prog 5 RS (w.heap.size + 1) (w.heap.size + 1 + 1) 5 entD (fun z => left z && !z.sameKey (.int .u8 ((eC k).toNat : Int))) cnt8 := hrg8.out.kept hT9.out.grows (by intro e; have := Option.some.inj e; omega) (by intro e; have := Option.some.inj e; omega)
      have hB9 : Below w.heap.size w w9 := hT9.out.below (hB.out.grown hg8.out hB.out.size (fun j e => by cases e; omega)) (Nat.le_refl _)
      go_roundw
      case rel =>
        refine ⟨_, cnt8, ks ++ [k], Lib.hid hrg9, Lib.hid ?_, Lib.hid (fun m hm => ?_), Lib.hid (fun m hm => ?_), Lib.hid (fun x hx => ?_), Lib.hid hB9⟩
        · have := hE9.out
          unfold namKV at *
          rw [List.map_append]
          exact this
        · rcases List.mem_append.1 hm with h | h
          · exact hks.out m h
          · rw [List.mem_singleton.1 h]; exact hk.out
        · rw [hlk.out m hm]
          by_cases e : m = k
          · subst e; simp [Lit.sameKey]
          · have hne : (eC m).toNat ≠ (eC k).toNat := fun h => e (eC_inj m hm k hk.out (UInt8.toNat_inj.1 h))
            have hne2 : ¬ ((eC m).toNat : Int) = ((eC k).toNat : Int) := by omega
            simp [Lit.sameKey, hne2, e]
        · simp only [Bool.and_eq_true] at hx
          exact hli.out x hx.1
      case measure => rw [hrg9.left_eq, hrg.out.left_eq]; exact hlt8
end Go.Proofs.YtjpdadibeocpfaaDoor
