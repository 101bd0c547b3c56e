/-
  An escaped text, read piece by piece: what a cut at '&', at ';' finds. Plain lists, no condition.
-/
import Derived.Test.YtjpdadibeocpfaaDoorTxEsc
import Derived.Test.YtjpdadibeocpfaaDoorJidPure
import Derived.Test.YtjpdadibeocpfaaDoorWrBuilder
import Derived.Lib.FrozenHead2
import Derived.Shelf.Strings.SlTrimAscii
import Derived.Test.YtjpdadibeocpfaaDoorPbC
import Derived.Scope
import Derived.Deep.QuietTactic
import Derived.BigQuiet
import Derived.Maps.RangeWalk
import Derived.Maps.StringElems
import Derived.Maps.OwnOps
import Derived.Test.YtjpdadibeocpfaaDoorShelf
import Derived.WalkKit
import Derived.Deep.DeepCutAuto
import Derived.StillTailTactics
import Derived.OwnWalk
namespace Go.Proofs.YtjpdadibeocpfaaDoor
set_option linter.unusedVariables false
set_option linter.unusedSimpArgs false
def eC : Nat → UInt8
  | 0 => 38
  | 1 => 60
  | 2 => 62
  | 3 => 39
  | _ => 34
def eN : Nat → List UInt8
  | 0 => [97, 109, 112]
  | 1 => [108, 116]
  | 2 => [103, 116]
  | 3 => [97, 112, 111, 115]
  | _ => [113, 117, 111, 116]
theorem eC_esc : ∀ k, k < 5 → esc1 (eC k) = 38 :: (eN k ++ [59]) := by decide
theorem eN_semi : ∀ k, k < 5 → (59 : UInt8) ∉ eN k := by decide
def mildL (u : List UInt8) : Prop := ∀ c ∈ u, c ≠ 38 ∧ c ≠ 60 ∧ esc1 c = [c]
theorem mild_or (c : UInt8) : (∃ k, k < 5 ∧ c = eC k) ∨ (c ≠ 38 ∧ c ≠ 60 ∧ esc1 c = [c]) := by
  by_cases h1 : c = 38
  · exact .inl ⟨0, by omega, h1⟩
  by_cases h2 : c = 60
  · exact .inl ⟨1, by omega, h2⟩
  by_cases h3 : c = 62
  · exact .inl ⟨2, by omega, h3⟩
  by_cases h4 : c = 39
  · exact .inl ⟨3, by omega, h4⟩
  by_cases h5 : c = 34
  · exact .inl ⟨4, by omega, h5⟩
  exact .inr ⟨h1, h2, by simp [esc1, h1, h2, h3, h4, h5]⟩
theorem mild_esc : ∀ {u : List UInt8}, mildL u → escL u = u
  | [], _ => rfl
  | c :: u, h => by
    have := mild_esc (u := u) fun x hx => h x (.tail _ hx)
    unfold escL at *
    rw [List.flatMap_cons, this, (h c (.head _)).2.2]
    rfl
theorem mild_split : ∀ t : List UInt8, mildL t ∨ ∃ u k v, k < 5 ∧ t = u ++ eC k :: v ∧ mildL u
  | [] => .inl fun c h => by cases h
  | c :: t => by
    rcases mild_or c with ⟨k, hk, rfl⟩ | hc
    · exact .inr ⟨[], k, t, hk, rfl, fun c h => by cases h⟩
    · rcases mild_split t with h | ⟨u, k, v, hk, rfl, h⟩
      · exact .inl fun x hx => by
          rcases List.mem_cons.1 hx with rfl | hx
          · exact hc
          · exact h x hx
      · exact .inr ⟨c :: u, k, v, hk, rfl, fun x hx => by
          rcases List.mem_cons.1 hx with rfl | hx
          · exact hc
          · exact h x hx⟩
theorem esc_split {u v : List UInt8} {k : Nat} (hk : k < 5) (hu : mildL u) : escL (u ++ eC k :: v) = u ++ 38 :: (eN k ++ 59 :: escL v) := by
  have h1 := mild_esc hu
  unfold escL at *
  rw [List.flatMap_append, List.flatMap_cons, h1, eC_esc k hk]
  simp
theorem ycut_no {c : UInt8} : ∀ {u : List UInt8}, c ∉ u → cutB c u = (u, [], false)
  | [], _ => rfl
  | b :: u, h => by
    have hb : (b == c) = false := by
      rw [beq_eq_false_iff_ne]; rintro rfl; exact h (.head _)
    rw [cutB, hb, ycut_no fun hx => h (.tail _ hx)]
    rfl
theorem ycut_at {c : UInt8} {r : List UInt8} : ∀ {u : List UInt8}, c ∉ u → cutB c (u ++ c :: r) = (u, r, true)
  | [], _ => by simp [cutB]
  | b :: u, h => by
    have hb : (b == c) = false := by
      rw [beq_eq_false_iff_ne]; rintro rfl; exact h (.head _)
    rw [List.cons_append, cutB, hb, ycut_at fun hx => h (.tail _ hx)]
    rfl
theorem index_no {c : UInt8} : ∀ {u : List UInt8}, c ∉ u → Lib.indexByte u c = -1
  | [], _ => rfl
  | b :: u, h => by
    have hb : (b == c) = false := by
      rw [beq_eq_false_iff_ne]; rintro rfl; exact h (.head _)
    unfold Lib.indexByte
    rw [index_no fun hx => h (.tail _ hx)]
    simp [hb]
theorem mild_no {u : List UInt8} (h : mildL u) : (38 : UInt8) ∉ u ∧ (60 : UInt8) ∉ u := ⟨fun hx => (h _ hx).1 rfl, fun hx => (h _ hx).2.1 rfl⟩
theorem esc_ge : ∀ t : List UInt8, t.length ≤ (escL t).length
  | [] => Nat.le_refl _
  | c :: t => by
    have ih := esc_ge t
    have h1 : 1 ≤ (esc1 c).length := by
      unfold esc1
      repeat (split; · decide)
      simp
    unfold escL at *
    rw [List.flatMap_cons, List.length_append, List.length_cons]
    omega
end Go.Proofs.YtjpdadibeocpfaaDoor
/-
  strings.Builder: WriteByte; the parser's own small functions: must, space; text.Space. Each string shorter than the reach.
-/
namespace Go.Proofs.YtjpdadibeocpfaaDoor
set_option linter.unusedVariables false
set_option linter.unusedSimpArgs false
open Go.RowKit Go.Proofs Go.Shelf
set_option maxRecDepth 100000 in
set_option maxHeartbeats 2000000 in
theorem writeByte_any (B b : Nat) (acc : List UInt8) (c : UInt8) (w : World) (h : Lib.IsBuilderF 60 5 B b (Lib.byteCells acc) w) (hlen : acc.length + 1 ≤ 140737488355328) (hBw : B ≤ w.heap.size) :
    Calls Tryd.prog 62 #[.pointer (some ⟨b, 0, none⟩), .int .u8 (c.toNat : Int)] w fun e w' => e = .returned .nilIface ∧ (Lib.IsBuilderF 60 5 B b (Lib.byteCells (acc ++ [c])) w' ∧ Below B w w' ∧ Lib.OthersKept 5 (some b) w w') := by
  obtain ⟨i0, hi, hz0, hz1, hz2⟩ := info_parts infoByte
  have hal : (Lib.byteCells acc).length = acc.length := Lib.byteCells_length acc
  go_enter Tryd.func62, Tryd.ntmps62
  go_wp2_with (go_at_call 39; refine (copy_any B b _ _ h).mono ?_)
  rintro e w1 ⟨rfl, h1, hb1, hk1⟩
  obtain ⟨hB, v, hbk, hown, hne⟩ := h1
  have c0 : w1.cell? ⟨b, 0, none⟩ = some (.pointer (some ⟨b, 0, none⟩)) := by rw [Lib.cell_of_heap hbk]; rfl
  have c1 : w1.cell? ⟨b, 1, none⟩ = some v := by rw [Lib.cell_of_heap hbk]; rfl
  go_wp2_with (at_builtin; refine wpList_append_ownF _ rfl _ _ 22 rfl B 5 i0 (.int .u8 0) 1 1 Tryd.underlying22 hi hz0 hz1 hz2 rfl (by decide) _ _ _ rfl (hown.alloc _) ⟨w1.heap.size, 0, none⟩ 1 1 [.int .u8 (c.toNat : Int)] rfl rfl ?c1 ?c2 ?c3 ?c4 ?c5 ?_)
  case c1 =>
    intro j u hj
    match j, hj with
    | 0, hj => simp at hj; subst hj; simp [Addr.add]
  case c2 => intro u hu; simp at hu; subst hu; rfl
  case c3 => unfold maxLen; omega
  case c4 => omega
  case c5 => have := hb1.size; simp; omega
  intro v' w2 hown' hgrow _
  have hlt : b < w1.heap.size := by
    rcases Nat.lt_or_ge b w1.heap.size with h' | h'
    · exact h'
    · simp [Array.getElem?_eq_none h'] at hbk
  have hb2 : w2.heap[b]? = some (.cells #[.pointer (some ⟨b, 0, none⟩), v] 60 (0, 0)) := by
    rw [hgrow.block b (by simp; omega) (fun e => hne e.symm), Lib.alloc_old w1 _ b hlt]
    exact hbk
  have d0 : w2.cell? ⟨b, 0, none⟩ = some (.pointer (some ⟨b, 0, none⟩)) := by rw [Lib.cell_of_heap hb2]; rfl
  have d1 : w2.cell? ⟨b, 1, none⟩ = some v := by rw [Lib.cell_of_heap hb2]; rfl
  have f1 : w2.frozen? ⟨b, 1, none⟩ = false := Lib.frozen_of_heap hb2 1
  obtain ⟨g, cap, rfl⟩ : ∃ g cap, v' = .slice (some ⟨g, 0, none⟩) (acc.length + 1) cap := by
    rcases hown'.2 with ⟨_, h0⟩ | ⟨g, cap, cur, fz, hv, _⟩
    · omega
    · exact ⟨g, cap, hv⟩
  have hcells : Lib.byteCells acc ++ [.int .u8 (c.toNat : Int)] = Lib.byteCells (acc ++ [c]) := by
    simp [Lib.byteCells]
  go_wp2
  go_ret
  refine ⟨rfl, .inr ?_, ?_, ((hk1.alloc _).grown hgrow (Lib.ownsRowF_kind (hown.alloc _))).setCell ⟨b, 1, none⟩ rfl _⟩
  · rw [← hcells]
    exact Lib.BuilderAtF.put (T := 60) (e := 5) hB hb2 (bs' := Lib.byteCells acc ++ [.int .u8 (c.toNat : Int)]) (by simpa [hal] using hown') (by decide)
  · exact ((hb1.alloc (by have := hb1.size; omega) _).grown hgrow (by have := hb1.size; simp; omega) (fun k hk => (hown.lt k hk).1)).setCell (p := ⟨b, 1, none⟩) hB _
theorem must_ok (e : Int) (w : World) : Calls Tryd.prog 37 #[.bool true, .int .i64 e] w fun r w' => r = .returned (.tuple #[]) ∧ w = w' := by
  go_enter Tryd.func37, Tryd.ntmps37
  go_wp2
  go_end0
  exact ⟨rfl, rfl⟩
theorem infoSet : (Tryd.prog.info? 124).map (fun i => (i.zero, i.size)) = some (some (.agg (Array.replicate 256 (.bool false))), 256) := by kernel_rfl
theorem space_any (s : List UInt8) (w : World) (hs : s.length ≤ 140737488351232) :
    Calls Tryd.prog 51 #[.string ⟨s.toArray⟩] w fun e w' => e = .returned (.int .i64 ((s.length : Int) - ((Lib.trimLeftS s [32, 9, 10, 13]).length : Int))) ∧ Below w.heap.size w w' := by
  have hl : (Lib.trimLeftS s [32, 9, 10, 13]).length ≤ s.length := by
    unfold Lib.trimLeftS
    exact (List.dropWhile_sublist _).length_le
  go_enter Tryd.func51, Tryd.ntmps51
  go_wp2_with (go_at_call 65; refine (Any.strings_TrimLeft_laid Tryd.lays161 (by kernel_rfl) ⟨s.toArray⟩ ⟨#[32, 9, 10, 13]⟩ _ (by decide) (ascii_of_all (by decide))).mono ?_; rintro e w1 ⟨rfl, hb⟩)
  go_ret
  exact ⟨by simp, hb⟩
theorem textSpace_any (s : List UInt8) (w : World) (hs : s.length ≤ 140737488351232) :
    Calls Tryd.prog 49 #[.string ⟨s.toArray⟩] w fun e w' => e = .returned (.bool (Lib.trimS s [32, 9, 10, 13]).isEmpty) ∧ Below w.heap.size w w' := by
  go_enter Tryd.func49, Tryd.ntmps49
  go_wp2_with (go_at_call 63; refine (Any.strings_Trim_laid Tryd.lays160 (by kernel_rfl) ⟨s.toArray⟩ ⟨#[32, 9, 10, 13]⟩ _ (by simp [ByteArray.size]; omega) (by decide) (ascii_of_all (by decide))).mono ?_; rintro e w1 ⟨rfl, hb⟩)
  go_ret
  exact ⟨rfl, hb⟩
end Go.Proofs.YtjpdadibeocpfaaDoor
/-
  A name at a text's head (xml.name). Condition: the text shorter than the reach; the head is a right name.
-/
namespace Go.Proofs.YtjpdadibeocpfaaDoor
set_option linter.unusedVariables false
set_option linter.unusedSimpArgs false
open Go.RowKit
attribute [local go_sem] mk_get
theorem ret_ss {a b c d : ByteArray} (h : a = b) (h' : c = d) : Ending.returned (.tuple #[.string a, .string c]) = .returned (.tuple #[.string b, .string d]) := by rw [h, h']
set_option maxRecDepth 100000 in
set_option maxHeartbeats 8000000 in
theorem xname_any (s : List UInt8) (w : World) (hs : s.length ≤ 140737488351232) (hn : nameP (s.take (headN nameC s)) = true) :
    Calls Tryd.prog 53 #[.string ⟨s.toArray⟩] w fun e w' => e = .returned (.tuple #[.string ⟨(s.take (headN nameC s)).toArray⟩, .string ⟨(s.drop (headN nameC s)).toArray⟩]) ∧ ∃ n, w' = w.drewN n := by
  have hle : headN nameC s ≤ s.length := (List.takeWhile_sublist _).length_le
  generalize hN : headN nameC s = N at hn hle ⊢
  replace hN := Lib.hid hN
  have hl1 : (s.take N).length ≤ 140737488351232 := by rw [List.length_take]; omega
  go_enter Tryd.func53, Tryd.ntmps53
  go_wp2
  refine wp_scope_straight ?_
  go_wp2_with fail
  apply wp_label
  go_wp2_with fail
  go_loop [4] (fun i => ∃ k : Nat, k ≤ s.length ∧ i = .int .i64 k ∧ Hid (headTo nameC s k)) (fun i => s.length - (intOf i).toNat)
  case atStart => exact ⟨0, Nat.zero_le _, rfl, fun i _ h => absurd h (Nat.not_lt_zero _)⟩
  case round =>
    obtain ⟨k, hk, rfl, HA⟩ := hrel
    by_cases hlt : k < s.length
    · have hsn := Lib.hid (fun h => headTo_snoc HA.out hlt h)
      have hen := Lib.hid (fun h : nameC (s[k]'hlt) = false => head_end (f := nameC) hk HA.out (fun _ => h))
      go_wp2_with fail
      all_goals first
        | (go_round
           case rel => exact ⟨k + 1, by omega, by go_num, hsn.out (by simp only [nameC, nameAt, decide_eq_true_eq]; simp at *; omega)⟩
           case measure => simp [intOf]; omega)
        | (have hc : nameC (s[k]'hlt) = false := by
             simp only [nameC, nameAt, decide_eq_false_iff_not]; simp at *; omega
           have hNk : N = k := by rw [← hN.out]; exact hen.out hc
           subst hNk
           rw [ext0]
           refine (textName_any (s.take N) _ hl1).mono ?_
           rintro e w1 ⟨rfl, rfl⟩
           rw [hn]
           have q1 : (0 : Int) ≤ (N : Int) := by omega
           have q2 : (N : Int) ≤ (s.length : Int) := by omega
           replace hn := Lib.hid hn
           clear hc hsn hen
           go_wp2_with (go_at_call 37; refine (must_ok 6 _).mono ?_; rintro e w2 ⟨rfl, rfl⟩)
           go_quiet (fail)
           go_wp2
           try rw [Exit.noGoto_ret]
           go_ret2
           exact ⟨ret_ss (ext0 s N) (extE s N), _, rfl⟩)
    · have hNk : N = s.length := by
        rw [← hN.out]
        exact head_end (f := nameC) (Nat.le_refl _) (by rw [show s.length = k by omega]; exact HA.out) (fun h => absurd h (by omega))
      have hkk : k = N := by omega
      subst hkk
      have q1 : (0 : Int) ≤ (k : Int) := by omega
      have q2 : (k : Int) ≤ (s.length : Int) := by omega
      replace hNk := Lib.hid hNk
      go_wp2_with (first
        | (go_at_call 56; rw [ext0]; refine (textName_any (s.take k) _ hl1).mono ?_; rintro e w1 ⟨rfl, rfl⟩; rw [hn])
        | (go_at_call 37; refine (must_ok 6 _).mono ?_; rintro e w2 ⟨rfl, rfl⟩))
      go_quiet (fail)
      go_wp2
      try rw [Exit.noGoto_ret]
      go_ret2
      exact ⟨ret_ss (ext0 s k) (extE s k), _, rfl⟩
end Go.Proofs.YtjpdadibeocpfaaDoor
/-
  The entities' map as a map that is ranged over; the map of names made from it. No condition.
-/
namespace Go.Proofs.YtjpdadibeocpfaaDoor
set_option linter.unusedVariables false
set_option linter.unusedSimpArgs false
open Go.RowKit Go.MapKept Go.Maps Go.WideElems
theorem lawB : Keyed Tryd.prog 5 := int_keyed Tryd.underlying5
noncomputable def RS : Value → Option (DataW Unit × List MemPlace) := plainElem Tryd.prog 9
theorem rs_str (l : List UInt8) (h : l.length ≤ 10) : RS (.string ⟨l.toArray⟩) = some (.lit (.string l), []) := by
  have := plainElem_string (H := Unit) Tryd.underlying9 (s := ⟨l.toArray⟩) (by unfold maxLen; simp [ByteArray.size]; omega)
  unfold RS
  simpa using this
theorem key_u8 (c : UInt8) : keyOf Tryd.prog 5 (.int .u8 (c.toNat : Int)) = some (.int .u8 (c.toNat : Int)) := by
  have h : (Lit.int .u8 (c.toNat : Int)).wf = true := by
    have h1 : IntKind.u8.min = 0 := rfl
    have h2 : IntKind.u8.max = 255 := rfl
    have := UInt8.toNat_lt c
    simp [Lit.wf, h1, h2]
    omega
  simp [keyOf, Tryd.underlying5, mapKey, h]
noncomputable def entDL : List (Lit × DataW Unit) := [(.int .u8 38, .lit (.string [97, 109, 112])), (.int .u8 60, .lit (.string [108, 116])), (.int .u8 62, .lit (.string [103, 116])), (.int .u8 39, .lit (.string [97, 112, 111, 115])), (.int .u8 34, .lit (.string [113, 117, 111, 116]))]
theorem ent_rg : entE.toList.map (rg Tryd.prog 5 RS) = entDL := by
  have go : ∀ (c : UInt8) (n : List UInt8) (b : Nat), n.length ≤ 10 → rg Tryd.prog 5 RS ⟨.int .u8 (c.toNat : Int), .string ⟨n.toArray⟩, b⟩ = (.int .u8 (c.toNat : Int), .lit (.string n)) := fun c n b hn =>
    rg_of (rd_mk (key_u8 c) (rs_str n hn))
  have e1 := go 38 [97, 109, 112] 0 (by decide)
  have e2 := go 60 [108, 116] 1 (by decide)
  have e3 := go 62 [103, 116] 2 (by decide)
  have e4 := go 39 [97, 112, 111, 115] 3 (by decide)
  have e5 := go 34 [113, 117, 111, 116] 4 (by decide)
  have n1 : (((38 : UInt8).toNat : Nat) : Int) = 38 := rfl
  have n2 : (((60 : UInt8).toNat : Nat) : Int) = 60 := rfl
  have n3 : (((62 : UInt8).toNat : Nat) : Int) = 62 := rfl
  have n4 : (((39 : UInt8).toNat : Nat) : Int) = 39 := rfl
  have n5 : (((34 : UInt8).toNat : Nat) : Int) = 34 := rfl
  rw [n1] at e1
  rw [n2] at e2
  rw [n3] at e3
  rw [n4] at e4
  rw [n5] at e5
  unfold entE entDL
  simp only [List.map_cons, List.map_nil, e1, e2, e3, e4, e5]
noncomputable def entD : DataW Unit := .map (entDL.foldr DataW.insert [])
theorem ent_own {w : World} {b : Nat} (h : w.heap[b]? = some (.map entE 5)) : w.ownsMap Tryd.prog 5 RS b 5 entD := by
  have h1 : entE.size = 5 := rfl
  have h2 : entE.size ≤ maxLen := by rw [h1]; unfold maxLen; omega
  have h3 : Stamped entE 5 := ⟨by simp [entE], by simp [entE], by simp [entE]⟩
  have h4 : ∀ x ∈ entE.toList, ∃ y, rd Tryd.prog 5 RS x = some y := by
    have go : ∀ (c : UInt8) (n : List UInt8) (b : Nat), n.length ≤ 10 → ∃ y, rd Tryd.prog 5 RS ⟨.int .u8 (c.toNat : Int), .string ⟨n.toArray⟩, b⟩ = some y := fun c n b hn => ⟨_, rd_mk (key_u8 c) (rs_str n hn)⟩
    intro x hx
    simp only [entE, List.mem_cons, List.mem_nil_iff, or_false] at hx
    rcases hx with rfl | rfl | rfl | rfl | rfl
    · exact go 38 [97, 109, 112] 0 (by decide)
    · exact go 60 [108, 116] 1 (by decide)
    · exact go 62 [103, 116] 2 (by decide)
    · exact go 39 [97, 112, 111, 115] 3 (by decide)
    · exact go 34 [113, 117, 111, 116] 4 (by decide)
  have h5 : entD = .map ((entE.toList.map (rg Tryd.prog 5 RS)).foldr DataW.insert []) := by rw [ent_rg]; unfold entD; rfl
  exact ⟨entE, 5, h, ⟨h2, h3, h4⟩, Nat.le_of_eq h1, h5⟩
theorem ent_has (x : Int) : Maps.has entD (.int .u8 x) = true ↔ ∃ k, k < 5 ∧ x = ((eC k).toNat : Int) := by
  have e : Maps.has entD (.int .u8 x) = entDL.any (fun p => p.1.sameKey (.int .u8 x)) := by
    unfold entD
    rw [has_eq, Bool.eq_iff_iff, List.any_eq_true, List.any_eq_true]
    constructor
    · rintro ⟨p, hp, h⟩; exact ⟨p, mem_sorted.1 hp, h⟩
    · rintro ⟨p, hp, h⟩; exact ⟨p, mem_sorted.2 hp, h⟩
  rw [e]
  simp only [entDL, List.any_cons, List.any_nil, Lit.sameKey, Bool.or_false, Bool.or_eq_true]
  constructor
  · intro h
    rcases h with h | h | h | h | h
    · exact ⟨0, by omega, by simpa [eC, eq_comm] using h⟩
    · exact ⟨1, by omega, by simpa [eC, eq_comm] using h⟩
    · exact ⟨2, by omega, by simpa [eC, eq_comm] using h⟩
    · exact ⟨3, by omega, by simpa [eC, eq_comm] using h⟩
    · exact ⟨4, by omega, by simpa [eC, eq_comm] using h⟩
  · rintro ⟨k, hk, rfl⟩
    obtain rfl | rfl | rfl | rfl | rfl : k = 0 ∨ k = 1 ∨ k = 2 ∨ k = 3 ∨ k = 4 := by omega
    all_goals simp [eC]
theorem ent_at (k : Nat) (hk : k < 5) (zd : DataW Unit) : entD.atKey (.int .u8 ((eC k).toNat : Int)) zd = .lit (.string (eN k)) := by
  obtain rfl | rfl | rfl | rfl | rfl : k = 0 ∨ k = 1 ∨ k = 2 ∨ k = 3 ∨ k = 4 := by omega
  all_goals rfl
def namKV (ks : List Nat) : List (Value × Value) := ks.map fun k => (.string ⟨(eN k).toArray⟩, .int .u8 ((eC k).toNat : Int))
theorem nam_keys (ks : List Nat) : ∀ p ∈ namKV ks, IsKey .string p.1 := by
  intro p hp
  obtain ⟨k, -, rfl⟩ := List.mem_map.1 hp
  trivial
theorem eN_inj : ∀ k, k < 5 → ∀ m, m < 5 → eN k = eN m → k = m := by decide
theorem ba_beq (a b : List UInt8) : ((⟨a.toArray⟩ : ByteArray) == ⟨b.toArray⟩) = (a == b) := by
  show (a.toArray == b.toArray) = _
  simp
theorem nam_find {k : Nat} (hk : k < 5) : ∀ ks : List Nat, (∀ m ∈ ks, m < 5) → findKV .string (.string ⟨(eN k).toArray⟩) (namKV ks) = if ks.contains k then some (.int .u8 ((eC k).toNat : Int)) else none
  | [], _ => rfl
  | m :: ks, h => by
    have ih := nam_find hk ks fun x hx => h x (.tail _ hx)
    unfold namKV at *
    rw [List.map_cons, findKV, ih]
    by_cases e : k = m
    · subst e
      simp [Instr.sameNow, ba_beq]
    · have hne : (eN m == eN k) = false := by
        rw [beq_eq_false_iff_ne]; intro e2; exact e (eN_inj m (h m (.head _)) k hk e2).symm
      have hne2 : (eN k == eN m) = false := by rw [beq_eq_false_iff_ne] at *; exact fun x => hne x.symm
      simp [Instr.sameNow, ba_beq, e, hne, hne2]
end Go.Proofs.YtjpdadibeocpfaaDoor
/-
  strings.Cut at one byte, by the library's law on Index. Each string shorter than the reach.
-/
namespace Go.Proofs.YtjpdadibeocpfaaDoor
set_option linter.unusedVariables false
set_option linter.unusedSimpArgs false
open Go.RowKit
theorem xcutS_any (s : List UInt8) (c : UInt8) (w : World) (hs : s.length ≤ 140737488351232) :
    Calls Tryd.prog 58 #[.string ⟨s.toArray⟩, .string ⟨#[c]⟩] w fun e w' => e = .returned (.tuple #[.string ⟨(cutB c s).1.toArray⟩, .string ⟨(cutB c s).2.1.toArray⟩, .bool (cutB c s).2.2]) ∧ ∃ n, w' = w.drewN n := by
  by_cases hn : Lib.indexByte s c < 0
  · have e := Lib.hid (cutB_none hn)
    have hd : decide (0 ≤ Lib.indexByte s c) = false := by simp; omega
    go_enter Tryd.func58, Tryd.ntmps58
    go_wp2_with (go_at_call 72; refine (Tryd.stringslite_Index_one _ _ _).mono ?_; rintro e w' ⟨rfl, rfl⟩)
    go_ret3
    exact ⟨Eq.trans (b := Ending.returned (.tuple #[.string ⟨s.toArray⟩, .string ⟨#[]⟩, .bool false])) rfl (by rw [e.out]), 0, rfl⟩
  · obtain ⟨g1, g2⟩ := cutB_some (c := c) (l := s) (by omega)
    replace g2 := Lib.hid g2
    obtain ⟨n, hn'⟩ : ∃ n : Nat, Lib.indexByte s c = n := ⟨(Lib.indexByte s c).toNat, by omega⟩
    rw [hn'] at g1 g2
    rw [Int.toNat_natCast] at g1
    have HI := Lib.hid hn'
    clear hn hn'
    have q1 : (0 : Int) ≤ (n : Int) := by omega
    have q2 : (n : Int) ≤ (s.length : Int) := by omega
    have q3 : (n : Int) + 1 ≤ (s.length : Int) := by omega
    have q4 : (0 : Int) ≤ (n : Int) + 1 := by omega
    go_enter Tryd.func58, Tryd.ntmps58
    go_wp2_with (go_at_call 72; refine (Tryd.stringslite_Index_one _ _ _).mono ?_; rintro e w' ⟨rfl, rfl⟩; rw [HI.out])
    go_quiet (fail)
    go_wp2
    go_ret3
    refine ⟨Eq.trans (b := Ending.returned (.tuple #[.string ((ByteArray.mk s.toArray).extract 0 n), .string ((ByteArray.mk s.toArray).extract (n + 1) s.length), .bool true])) rfl ?_, _, rfl⟩
    rw [ByteArray.extract_mk, ByteArray.extract_mk]
    have g := g2.out
    simp only [Int.toNat_natCast] at g
    rw [g]
    simp only [List.drop_zero, Nat.sub_zero]
    rw [List.take_of_length_le (i := s.length - (n + 1)) (by simp)]
theorem xcut_any (s : List UInt8) (c : UInt8) (w : World) (hs : s.length ≤ 140737488351232) :
    Calls Tryd.prog 43 #[.string ⟨s.toArray⟩, .string ⟨#[c]⟩] w fun e w' => e = .returned (.tuple #[.string ⟨(cutB c s).1.toArray⟩, .string ⟨(cutB c s).2.1.toArray⟩, .bool (cutB c s).2.2]) ∧ ∃ n, w' = w.drewN n := by
  go_enter Tryd.func43, Tryd.ntmps43
  go_wp2_with (go_at_call 58; refine (xcutS_any _ _ _ (by omega)).mono ?_; rintro e w' ⟨rfl, n, rfl⟩)
  go_ret3
  exact ⟨rfl, n, rfl⟩
end Go.Proofs.YtjpdadibeocpfaaDoor
/-
  A text with entities is read back (text.Unescape). Condition: the text shorter than the reach.
-/
namespace Go.Proofs.YtjpdadibeocpfaaDoor
set_option linter.unusedVariables false
set_option linter.unusedSimpArgs false
open Go.RowKit Go.MapKept Go.Maps Go.Proofs
attribute [local go_sem] mk_get
theorem eC_inj : ∀ k, k < 5 → ∀ m, m < 5 → eC k = eC m → k = m := by decide
def strLen : Value → Nat
  | .string s => s.size
  | _ => 0
theorem zeroU8 (w : World) : (zeroValue 5).run Tryd.prog w = .ok (.int .u8 0) w := by kernel_rfl
theorem nam_full {ks : List Nat} (h : ∀ k, k < 5 → ks.contains k = true) (hl : ∀ k ∈ ks, k < 5) {k : Nat} (hk : k < 5) : findKV .string (.string ⟨(eN k).toArray⟩) (namKV ks) = some (.int .u8 ((eC k).toNat : Int)) := by
  rw [nam_find hk ks hl, h k hk]; rfl
theorem Turned.grows {b : Nat} {w w1 : World} (h : Turned b w w1) : w.grownBy w1 (some b) := ⟨h.os, h.tape, h.output, by rw [h.size]; exact Nat.le_refl _, fun i _ hi => h.other i (fun e => hi (by rw [e]))⟩
theorem isB_bl {T e : TypeId} {B b : Nat} {bs : List Value} {W W' : World} (h : Lib.IsBuilderF T e B b bs W) (hd : ∃ n, W' = W.drewN n) : Lib.IsBuilderF T e B b bs W' := by
  obtain ⟨n, rfl⟩ := hd
  exact h
theorem Ents.belowB {w w1 : World} {b B : Nat} {kv : List (Value × Value)} (h : Ents w b kv) (hb : Below B w w1) (hlt : b < B) : Ents w1 b kv := by
  obtain ⟨es, clock, h1, h2⟩ := h
  exact ⟨es, clock, (hb.block b hlt).trans h1, h2⟩
theorem esc_suf (a r : List UInt8) : (escL r).length ≤ (escL (a ++ r)).length := by
  unfold escL
  rw [List.flatMap_append, List.length_append]
  omega
set_option maxRecDepth 100000 in
set_option maxHeartbeats 8000000 in
theorem unescape_any (t : List UInt8) (w : World) (hs : (escL t).length ≤ 140737488351232) :
    Calls Tryd.prog 48 #[.string ⟨(escL t).toArray⟩] w fun e w' => e = .returned (.tuple #[.string ⟨t.toArray⟩, .int .i64 0]) ∧ Below w.heap.size w w' := by
  have hge := esc_ge t
  have hmm := @run_makeMap Tryd.prog
  go_enter Tryd.func48, Tryd.ntmps48
  go_wp2_with (first
    | (go_at_call 40; refine (entities_any _).mono ?_; rintro e w1 ⟨rfl, rfl⟩)
    | (at_range; refine wpList_range_own _ rfl _ 91 rfl 5 9 lawB Tryd.underlying91 RS (w.heap.size + 1) 5 entD rfl (ent_own (by have := (heap_alloc (w.alloc (.map #[] 0)) (.map entE 5)).1; simpa using this)) ?_; intro w7 hrg7 hg7 hs7; replace hrg7 := Lib.hid hrg7; replace hg7 := Lib.hid hg7; replace hs7 := Lib.hid hs7))
  try go_frame
  rw [show ((w.alloc (.map #[] 0)).alloc (.map entE 5)).heap.size = w.heap.size + 1 + 1 from by simp]
  go_loopw [20] (fun s20 wr => ∃ (left : Lit → Bool) (cnt : Nat) (ks : List Nat), Hid (wr.ranges Tryd.prog 5 RS (w.heap.size + 1) (w.heap.size + 1 + 1) 5 entD left cnt) ∧ Hid (Ents wr w.heap.size (namKV ks)) ∧ Hid (∀ k ∈ ks, k < 5) ∧ Hid (∀ k, k < 5 → left (.int .u8 ((eC k).toNat : Int)) = !(ks.contains k)) ∧ Hid (∀ x : Int, left (.int .u8 x) = true → ∃ k, k < 5 ∧ x = ((eC k).toNat : Int)) ∧ Hid (Below w.heap.size w wr)) (fun _ wr => wr.rangeLeft (w.heap.size + 1) (w.heap.size + 1 + 1))
  case atStart =>
    have hb7 : Below w.heap.size w w7 := by
      have h1 := below1t (below1t (w := w.alloc (.map #[] 0)) (o := .map entE 5) (Below.refl _ _))
      exact h1.grown hg7.out (by simp; omega) (fun j e => by cases e)
    have hE7 : Ents w7 w.heap.size (namKV []) := ((Ents.made w).alloc (.map entE 5)).grown hg7.out (by simp)
    refine ⟨_, _, [], by simpa using hrg7, Lib.hid hE7, Lib.hid (fun k h => by cases h), Lib.hid (fun k hk => ?_), Lib.hid (fun x hx => (ent_has x).1 hx), Lib.hid hb7⟩
    rw [(ent_has _).2 ⟨k, hk, rfl⟩]; rfl
  case round =>
    obtain ⟨left, cnt, ks, hrg, hE, hks, hlk, hli, hB⟩ := hrel
    have hsz : Hid (w.heap.size + 1 + 1 < wr.heap.size) := Lib.hid hrg.out.lt
    go_wp2_with (first
      | (at_next
         go_loud
          (refine wpList_next_ranges_is _ rfl _ rfl 5 9 .u8 lawB Tryd.underlying5 Tryd.underlying9 (w.heap.size + 1) (w.heap.size + 1 + 1) 5 entD left cnt rfl hrg.out ?_ ?_
           (intro hc0 hl0; replace hl0 := Lib.hid hl0; have tokA := Lib.hid True.intro)
           rotate_left
           (intro x c w8 cnt8 hwf8 hsz8 hlk8 hat8 hrg8 hlt8 hg8 hs8 hen8
            obtain ⟨k, hk, rfl⟩ := hli.out x hlk8
            have hat9 := (hat8 .nil).symm.trans (ent_at k hk .nil)
            obtain ⟨cl, rfl, hcl⟩ := byte_str c
            obtain rfl : cl = eN k := by
              simp only [DataW.lit.injEq, Lit.string.injEq] at hat9
              rw [hcl]; exact hat9
            have hnk : ks.contains k = false := by
              have := hlk.out k hk
              rw [hlk8] at this
              cases h : ks.contains k with
              | false => rfl
              | true => rw [h] at this; cases this
            have hE8 := hE.out.grown hg8 (by intro e; have := Option.some.inj e; omega)
            obtain ⟨w9, hst9, hE9, hT9⟩ := store_ents (P := Tryd.prog) Tryd.underlying112 Tryd.underlying9 hE8 (nam_keys ks) (key := .string ⟨(eN k).toArray⟩) trivial (by rw [nam_find hk ks hks.out, hnk]; rfl) (.int .u8 ((eC k).toNat : Int))
            replace hlk8 := Lib.hid hlk8
            replace hrg8 := Lib.hid hrg8
            replace hg8 := Lib.hid hg8
            replace hs8 := Lib.hid hs8
            replace hE9 := Lib.hid hE9
            replace hT9 := Lib.hid hT9
            replace hnk := Lib.hid hnk
            replace hk := Lib.hid hk
            clear hwf8 hsz8 hat8 hat9 hcl hE8)
           rotate_left)))
    · have hfull : Hid (∀ k, k < 5 → findKV .string (.string ⟨(eN k).toArray⟩) (namKV ks) = some (.int .u8 ((eC k).toNat : Int))) := Lib.hid fun k hk => nam_full (fun m hm => by
        have := hlk.out m hm
        rw [hl0.out] at this
        cases h : ks.contains m with
        | true => rfl
        | false => rw [h] at this; cases this) hks.out hk
      rename World => wo
      go_loopw [0] (fun s0 wx => ∃ a r : List UInt8, Hid (a ++ r = t) ∧ s0 = .string ⟨(escL r).toArray⟩ ∧ Hid (Lib.IsBuilderF 60 5 wo.heap.size wo.heap.size (Lib.byteCells a) wx) ∧ Hid (Ents wx w.heap.size (namKV ks)) ∧ Hid (Below wo.heap.size wo wx)) (fun s0 _ => strLen s0)
      case atStart =>
        exact ⟨[], t, Lib.hid rfl, rfl, Lib.hid (Lib.IsBuilderF.of (Lib.fresh_isBuilder _ _ wo)), Lib.hid (hE.out.alloc _), Lib.hid (below1 wo _)⟩
      case round =>
        obtain ⟨a, r, hat, rfl, hI, hEx, hBx⟩ := hrel
        have hla : Hid (a.length + r.length ≤ t.length) := Lib.hid (by rw [← hat.out, List.length_append]; exact Nat.le_refl _)
        have hlr : Hid ((escL r).length ≤ 140737488351232) := Lib.hid (by have := esc_suf a r; rw [hat.out] at this; omega)
        have hszx := hBx.out.size
        rcases mild_split r with hu | ⟨u, k, v, hk, hr, hu⟩
        · have hm := mild_esc hu
          obtain ⟨hn1, hn2⟩ := mild_no hu
          have hcut := Lib.hid (ycut_no hn1)
          have hidx := Lib.hid (index_no hn2)
          rw [hm] at hlr ⊢
          clear hm hu
          go_wp2_with (first
            | (go_at_call 43; refine (xcut_any r 38 _ hlr.out).mono ?_; rintro e w2 ⟨rfl, n2, rfl⟩; rw [hcut.out])
            | (go_at_call 61; refine (Tryd.strings_Contains_one ⟨r.toArray⟩ 60 _).mono ?_; rintro e w3 ⟨rfl, rfl⟩; rw [hidx.out])
            | (go_at_call 20; refine (writeStr_any wo.heap.size wo.heap.size a r (wr.drewN n2) (isB_bl hI.out ⟨n2, rfl⟩) (by have := hla.out; omega) (by exact hszx)).mono ?_; rintro e w4 ⟨rfl, hI4, hB4, hO4⟩; replace hI4 := Lib.hid hI4; replace hB4 := Lib.hid hB4; clear hO4)
            | (go_at_call 22; refine (string_any wo.heap.size wo.heap.size (a ++ r) _ hI4.out (Nat.le_trans hszx hB4.out.size)).mono ?_; rintro e w5 ⟨rfl, hB5⟩; replace hB5 := Lib.hid hB5))
          try rw [Exit.noGoto_ret]
          go_ret2
          exact ⟨ret_stri hat.out rfl, belowT hB.out (((belowN hBx.out n2).trans hB4.out).trans hB5.out)⟩
        · subst hr
          rw [esc_split hk hu] at hlr ⊢
          obtain ⟨hn1, hn2⟩ := mild_no hu
          have hcut := Lib.hid (ycut_at (r := eN k ++ 59 :: escL v) hn1)
          have hcut2 := Lib.hid (ycut_at (r := escL v) (eN_semi k hk))
          have hidx := Lib.hid (index_no hn2)
          have hfk := Lib.hid (hfull.out k hk)
          have hl1 : Hid (a.length + (u.length + 1 + v.length) ≤ t.length) := Lib.hid (by have := hla.out; rw [List.length_append, List.length_cons] at this; omega)
          have hl2 : Hid ((eN k ++ 59 :: escL v).length ≤ 140737488351232) := Lib.hid (by have := hlr.out; rw [List.length_append, List.length_cons] at this; omega)
          have hl3 : Hid ((escL v).length < (u ++ 38 :: (eN k ++ 59 :: escL v)).length) := Lib.hid (by simp only [List.length_append, List.length_cons]; omega)
          generalize hq : eN k ++ 59 :: escL v = q at hlr hcut hcut2 hl2 hl3 ⊢
          replace hq := Lib.hid hq
          have hsz' := hsz.out
          clear hu hn1 hn2 hk hla
          generalize hs1 : u ++ 38 :: q = s1 at hlr hcut hl3 ⊢
          replace hs1 := Lib.hid hs1
          go_wp2_with (first
            | (have m4 := hI4; clear m4; go_at_call 43; refine (xcut_any q 59 _ hl2.out).mono ?_; rintro e w5 ⟨rfl, n5, rfl⟩; rw [hcut2.out]
               have hlook := lookup_ents (P := Tryd.prog) (w := w4.drewN n5) true Tryd.underlying112 Tryd.underlying9 (zeroU8 _) (b := w.heap.size) hE4.out (nam_keys ks) (key := .string ⟨(eN k).toArray⟩) trivial
               rw [hfk.out] at hlook
               simp only [if_true, Option.getD_some, Option.isSome_some] at hlook)
            | (go_at_call 43; refine (xcut_any s1 38 _ hlr.out).mono ?_; rintro e w2 ⟨rfl, n2, rfl⟩; rw [hcut.out])
            | (go_at_call 61; refine (Tryd.strings_Contains_one ⟨u.toArray⟩ 60 _).mono ?_; rintro e w3 ⟨rfl, rfl⟩; rw [hidx.out])
            | (go_at_call 20; refine (writeStr_any wo.heap.size wo.heap.size a u (wr.drewN n2) (isB_bl hI.out ⟨n2, rfl⟩) (by have := hl1.out; omega) (by exact hszx)).mono ?_; rintro e w4 ⟨rfl, hI4, hB4, hO4⟩; have hE4 := Ents.belowB (w := wr.drewN n2) (b := w.heap.size) (show Ents (wr.drewN n2) _ _ from hEx.out) hB4 (by omega); replace hI4 := Lib.hid hI4; replace hB4 := Lib.hid hB4; replace hE4 := Lib.hid hE4; clear hO4)
            | (go_at_call 62; refine (writeByte_any wo.heap.size wo.heap.size (a ++ u) (eC k) (w4.drewN n5) (isB_bl hI4.out ⟨n5, rfl⟩) (by have := hl1.out; rw [List.length_append]; omega) (Nat.le_trans hszx hB4.out.size)).mono ?_; rintro e w6 ⟨rfl, hI6, hB6, hO6⟩; have hE6 := Ents.belowB (w := w4.drewN n5) (b := w.heap.size) (show Ents (w4.drewN n5) _ _ from hE4.out) hB6 (by omega); replace hI6 := Lib.hid hI6; replace hB6 := Lib.hid hB6; replace hE6 := Lib.hid hE6; clear hO6))
          go_roundw
          case rel =>
            refine ⟨a ++ u ++ [eC k], v, Lib.hid ?_, rfl, hI6, hE6, Lib.hid (((belowN hBx.out n2).trans hB4.out).trans ((belowN (Below.refl _ _) n5).trans hB6.out))⟩
            rw [← hat.out]; simp
          case measure => simpa [strLen, ByteArray.size] using hl3.out
    · have hrg9 : w9.ranges Tryd.prog 5 RS (w.heap.size + 1) (w.heap.size + 1 + 1) 5 entD (fun z => left z && !z.sameKey (.int .u8 ((eC k).toNat : Int))) cnt8 := hrg8.out.kept hT9.out.grows (by intro e; have := Option.some.inj e; omega) (by intro e; have := Option.some.inj e; omega)
      have hB9 : Below w.heap.size w w9 := hT9.out.below (hB.out.grown hg8.out hB.out.size (fun j e => by cases e; omega)) (Nat.le_refl _)
      go_roundw
      case rel =>
        refine ⟨_, cnt8, ks ++ [k], Lib.hid hrg9, Lib.hid ?_, Lib.hid (fun m hm => ?_), Lib.hid (fun m hm => ?_), Lib.hid (fun x hx => ?_), Lib.hid hB9⟩
        · have := hE9.out
          unfold namKV at *
          rw [List.map_append]
          exact this
        · rcases List.mem_append.1 hm with h | h
          · exact hks.out m h
          · rw [List.mem_singleton.1 h]; exact hk.out
        · rw [hlk.out m hm]
          by_cases e : m = k
          · subst e; simp [Lit.sameKey]
          · have hne : (eC m).toNat ≠ (eC k).toNat := fun h => e (eC_inj m hm k hk.out (UInt8.toNat_inj.1 h))
            have hne2 : ¬ ((eC m).toNat : Int) = ((eC k).toNat : Int) := by omega
            simp [Lit.sameKey, hne2, e]
        · simp only [Bool.and_eq_true] at hx
          exact hli.out x hx.1
      case measure => rw [hrg9.left_eq, hrg.out.left_eq]; exact hlt8
end Go.Proofs.YtjpdadibeocpfaaDoor
/-
  One attribute of a printed tag is read back (xml.attribute). Conditions: a right name and value, the rest within the reach.
-/
namespace Go.Proofs.YtjpdadibeocpfaaDoor
set_option linter.unusedVariables false
set_option linter.unusedSimpArgs false
open Go.RowKit Go.MapKept Go.Proofs
theorem obj_belowP {W w' : World} {b : Nat} {o : Obj} (h : W.heap[b]? = some o) (hb : Below W.heap.size W w') : w'.heap[b]? = some o := (hb.block b (Array.getElem?_eq_some_iff.1 h).1).trans h
theorem space_0 (c : UInt8) (r : List UInt8) (hc : blC c = false) (W : World) (hs : (c :: r).length ≤ 140737488351232) :
    Calls Tryd.prog 51 #[.string ⟨(c :: r).toArray⟩] W fun e w' => e = .returned (.int .i64 0) ∧ Below W.heap.size W w' := by
  refine (space_any (c :: r) W hs).mono ?_
  rintro e w' ⟨rfl, hb⟩
  have h : Lib.trimLeftS (c :: r) [32, 9, 10, 13] = c :: r := by
    unfold Lib.trimLeftS
    rw [List.dropWhile_cons_of_neg]
    intro h
    unfold blC at hc
    rw [decide_eq_false_iff_not] at hc
    simp at h
    exact hc (by omega)
  rw [h]
  exact ⟨ret_int (by omega), hb⟩
theorem pre_one (c : UInt8) (r : List UInt8) (W : World) : Calls Tryd.prog 46 #[.string ⟨(c :: r).toArray⟩, .string ⟨#[c]⟩] W fun e w' => e = .returned (.bool true) ∧ W = w' := by
  refine (Tryd.strings_HasPrefix ⟨(c :: r).toArray⟩ ⟨#[c]⟩ W).mono ?_
  rintro e w' ⟨rfl, h⟩
  exact ⟨ret_bool (by simp [Lib.hasPrefix]), h.symm⟩
theorem xname_at (n : List UInt8) (c : UInt8) (r : List UInt8) (W : World) (hn : nameP n = true) (hc : nameC c = false) (hs : (n ++ c :: r).length ≤ 140737488351232) :
    Calls Tryd.prog 53 #[.string ⟨(n ++ c :: r).toArray⟩] W fun e w' => e = .returned (.tuple #[.string ⟨n.toArray⟩, .string ⟨(c :: r).toArray⟩]) ∧ ∃ k, w' = W.drewN k := by
  have hh : headN nameC (n ++ c :: r) = n.length := head_app (name_all hn) hc
  have := xname_any (n ++ c :: r) W hs (by rw [hh, List.take_left]; exact hn)
  rw [hh, List.take_left, List.drop_left] at this
  exact this
theorem ext_all (s : List UInt8) : (ByteArray.mk s.toArray).extract 0 s.length = ⟨s.toArray⟩ := by rw [ext0, List.take_length]
theorem ext_tl (c : UInt8) (s : List UInt8) : (ByteArray.mk (c :: s).toArray).extract 1 (c :: s).length = ⟨s.toArray⟩ := by rw [extE]; rfl
theorem ext_hd (c : UInt8) (s : List UInt8) : (ByteArray.mk (c :: s).toArray).extract 0 1 = ⟨#[c]⟩ := by rw [ext0]; rfl
set_option maxRecDepth 100000 in
set_option maxHeartbeats 8000000 in
theorem xattr_any (n v r : List UInt8) (w : World) (hn : nameP n = true) (hf : fitsP v = true) (hr : r.length ≤ 100000) :
    Calls Tryd.prog 68 #[.string ⟨(n ++ 61 :: 39 :: (escL v ++ 39 :: r)).toArray⟩] w fun e w' => e = .returned (.tuple #[.agg #[.string ⟨n.toArray⟩, .string ⟨v.toArray⟩], .string ⟨r.toArray⟩]) ∧ Below w.heap.size w w' := by
  have hev := esc_len_le v hf
  have hnl := nameP_len hn
  have cUne := Lib.hid (fun W => unescape_any v W (by omega))
  have hno : Hid ((39 : UInt8) ∉ escL v) := Lib.hid (fun h => (escL_no v 39 h).2.2.1 rfl)
  have hcut := Lib.hid (ycut_at (r := r) hno.out)
  generalize hS4 : escL v ++ 39 :: r = S4 at hcut ⊢
  have l4 : S4.length ≤ 110000 := by rw [← hS4, List.length_append, List.length_cons]; omega
  have cCut := Lib.hid (fun W => xcut_any S4 39 W (by omega))
  have cSp3 := Lib.hid (fun W => space_0 39 S4 (by decide) W (by simp only [List.length_cons]; omega))
  have cPr3 := Lib.hid (pre_one 39 S4)
  have x3 := ext_all (39 :: S4)
  have y3 := ext_tl 39 S4
  have z3 := ext_hd 39 S4
  have l3 : (39 :: S4).length = S4.length + 1 := rfl
  generalize hS3 : 39 :: S4 = S3 at cSp3 cPr3 x3 y3 z3 l3 ⊢
  have cSp2 := Lib.hid (fun W => space_0 61 S3 (by decide) W (by simp only [List.length_cons]; omega))
  have cPr2 := Lib.hid (pre_one 61 S3)
  have cNm := Lib.hid (fun W => xname_at n 61 S3 W hn (by decide) (by simp only [List.length_append, List.length_cons]; omega))
  have x2 := ext_all (61 :: S3)
  have y2 := ext_tl 61 S3
  have l2 : (61 :: S3).length = S3.length + 1 := rfl
  generalize hS2 : 61 :: S3 = S2 at cSp2 cPr2 cNm x2 y2 l2 ⊢
  generalize hS1 : n ++ S2 = S1 at cNm ⊢
  rw [hcut.out] at cCut
  replace hS1 := Lib.hid hS1
  replace hS2 := Lib.hid hS2
  replace hS3 := Lib.hid hS3
  replace hS4 := Lib.hid hS4
  have p3 : (1 : Int) ≤ (S3.length : Int) := by omega
  have p2 : (1 : Int) ≤ (S2.length : Int) := by omega
  have p20 : (0 : Int) ≤ (S2.length : Int) := by omega
  have p30 : (0 : Int) ≤ (S3.length : Int) := by omega
  have b3 : S3.length ≤ 200000 := by omega
  have b2 : S2.length ≤ 200000 := by omega
  replace l2 := Lib.hid l2
  replace l3 := Lib.hid l3
  have hobj0 : (w.alloc (.cells #[.string ⟨#[]⟩, .string ⟨#[]⟩] 39)).heap[w.heap.size]? = some (.cells #[.string ⟨#[]⟩, .string ⟨#[]⟩] 39) := (heap_alloc _ _).1
  go_enter Tryd.func68, Tryd.ntmps68
  go_upto_region 7 with (first
    | (go_at_call 53; refine (cNm.out _).mono ?_; rintro e w1 ⟨rfl, k1, rfl⟩)
    | (have mA := mB; clear mA; go_at_call 51; refine (cSp3.out _).mono ?_; rintro e w4 ⟨rfl, hb4⟩; replace hb4 := Lib.hid hb4; have mC := Lib.hid True.intro)
    | (go_at_call 51; refine (cSp2.out _).mono ?_; rintro e w2 ⟨rfl, hb2⟩; replace hb2 := Lib.hid hb2; have mB := Lib.hid True.intro)
    | (have mA := mC; clear mA; go_at_call 46; refine (cPr3.out _).mono ?_; rintro e w5 ⟨rfl, rfl⟩)
    | (go_at_call 46; refine (cPr2.out _).mono ?_; rintro e w3 ⟨rfl, rfl⟩)
    | (go_at_call 37; refine (must_ok 6 _).mono ?_; rintro e w6 ⟨rfl, rfl⟩))
  have hobj1 := obj_set (i := 0) (show ((w.alloc (.cells #[.string ⟨#[]⟩, .string ⟨#[]⟩] 39)).drewN k1).heap[w.heap.size]? = some _ from hobj0) (.string ⟨n.toArray⟩)
  have hobj4 := Lib.hid (obj_belowP (obj_belowP hobj1 hb2.out) hb4.out)
  have hB1 : Below w.heap.size w (((w.alloc (.cells #[.string ⟨#[]⟩, .string ⟨#[]⟩] 39)).drewN k1).setCell ⟨w.heap.size, 0, none⟩ (.string ⟨n.toArray⟩)) := (belowN (below1 w _) k1).setCell (p := ⟨w.heap.size, 0, none⟩) (Nat.le_refl _) _
  have hB4 := Lib.hid (belowT (belowT hB1 hb2.out) hb4.out)
  clear hobj1 hB1 hb2 hb4 cNm cSp2 cSp3 cPr2 cPr3
  go_region_law (go_simp; go_at_call 43; refine (cCut.out _).mono ?_; rintro e w5 ⟨rfl, k5, rfl⟩)
  have hobj5 : (w4.drewN (1 + k5)).heap[w.heap.size]? = some (.cells #[.string ⟨n.toArray⟩, .string ⟨#[]⟩] 39) := hobj4.out
  have hB5 := belowN hB4.out (1 + k5)
  generalize w4.drewN (1 + k5) = w5 at hobj5 hB5 ⊢
  replace hB5 := Lib.hid hB5
  clear cCut hobj4 hB4
  go_wp2_with (first
    | (go_at_call 37; refine (must_ok 6 _).mono ?_; rintro e w6 ⟨rfl, rfl⟩)
    | (go_at_call 48; refine (cUne.out _).mono ?_; rintro e w6 ⟨rfl, hb6⟩
       have hobj6 := obj_belowP hobj5 hb6
       have hB6 := Lib.hid (belowT hB5.out hb6)
       obtain ⟨xc6, xf6, xl6⟩ := obj_cells hobj6
       have c60 : w6.cell? ⟨w.heap.size, 0, none⟩ = some (.string ⟨n.toArray⟩) := (xc6 0).trans rfl
       have c61 : w6.cell? ⟨w.heap.size, 1, none⟩ = some (.string ⟨#[]⟩) := (xc6 1).trans rfl
       have f60 := xf6 0
       have f61 := xf6 1
       clear xc6 xf6 hobj5 hb6
       replace hobj6 := Lib.hid hobj6))
  refine bodyPost_ret (v := .tuple #[.agg #[.string ⟨n.toArray⟩, .string ⟨v.toArray⟩], .string ⟨r.toArray⟩]) (by simp [results, Tryd.results68, go_sem, c60, c61]) rfl ⟨rfl, ?_⟩
  exact ((hB6.out.setCell (p := ⟨w.heap.size, 1, none⟩) (Nat.le_refl _) _).setCell (p := ⟨w.heap.size, 0, none⟩) (Nat.le_refl _) _).setCell (p := ⟨w.heap.size, 1, none⟩) (Nat.le_refl _) _
end Go.Proofs.YtjpdadibeocpfaaDoor
