/-
  Texts with entities (text.Escape). Condition: at most 2^40 bytes.
-/
import Derived.Test.YtjpdadibeocpfaaDoorTxA
import Derived.Test.YtjpdadibeocpfaaDoorMap
import Derived.Lib.AppendStr
import Derived.Lib.UnsafeStr
import Derived.Maps.AppendAt
import Derived.RangeFuncBox
import Derived.OwnWalk
namespace Go.Proofs.YtjpdadibeocpfaaDoor
set_option linter.unusedVariables false
set_option linter.unusedSimpArgs false
open Go.RowKit Go.MapKept
attribute [local go_sem] mk_get
def entE : Array MapEntry := #[⟨.int .u8 38, .string ⟨#[97, 109, 112]⟩, 0⟩, ⟨.int .u8 60, .string ⟨#[108, 116]⟩, 1⟩, ⟨.int .u8 62, .string ⟨#[103, 116]⟩, 2⟩, ⟨.int .u8 39, .string ⟨#[97, 112, 111, 115]⟩, 3⟩, ⟨.int .u8 34, .string ⟨#[113, 117, 111, 116]⟩, 4⟩]
def entKV : List (Value × Value) := [(.int .u8 38, .string ⟨#[97, 109, 112]⟩), (.int .u8 60, .string ⟨#[108, 116]⟩), (.int .u8 62, .string ⟨#[103, 116]⟩), (.int .u8 39, .string ⟨#[97, 112, 111, 115]⟩), (.int .u8 34, .string ⟨#[113, 117, 111, 116]⟩)]
theorem entities_any (w : World) :
    Calls Tryd.prog 40 #[] w fun e w' => e = .returned (.map (some w.heap.size)) ∧ w' = w.alloc (.map entE 5) := by
  have hmm := @run_makeMap Tryd.prog
  have i1 := insert_top (P := Tryd.prog) (w := w) Tryd.underlying91 Tryd.underlying5 #[] 0 (key := .int .u8 38) rfl rfl (.string ⟨#[97, 109, 112]⟩)
  have i2 := insert_top (P := Tryd.prog) (w := w) Tryd.underlying91 Tryd.underlying5 #[⟨.int .u8 38, .string ⟨#[97, 109, 112]⟩, 0⟩] 1 (key := .int .u8 60) rfl (by kernel_rfl) (.string ⟨#[108, 116]⟩)
  have i3 := insert_top (P := Tryd.prog) (w := w) Tryd.underlying91 Tryd.underlying5 #[⟨.int .u8 38, .string ⟨#[97, 109, 112]⟩, 0⟩, ⟨.int .u8 60, .string ⟨#[108, 116]⟩, 1⟩] 2 (key := .int .u8 62) rfl (by kernel_rfl) (.string ⟨#[103, 116]⟩)
  have i4 := insert_top (P := Tryd.prog) (w := w) Tryd.underlying91 Tryd.underlying5 #[⟨.int .u8 38, .string ⟨#[97, 109, 112]⟩, 0⟩, ⟨.int .u8 60, .string ⟨#[108, 116]⟩, 1⟩, ⟨.int .u8 62, .string ⟨#[103, 116]⟩, 2⟩] 3 (key := .int .u8 39) rfl (by kernel_rfl) (.string ⟨#[97, 112, 111, 115]⟩)
  have i5 := insert_top (P := Tryd.prog) (w := w) Tryd.underlying91 Tryd.underlying5 #[⟨.int .u8 38, .string ⟨#[97, 109, 112]⟩, 0⟩, ⟨.int .u8 60, .string ⟨#[108, 116]⟩, 1⟩, ⟨.int .u8 62, .string ⟨#[103, 116]⟩, 2⟩, ⟨.int .u8 39, .string ⟨#[97, 112, 111, 115]⟩, 3⟩] 4 (key := .int .u8 34) rfl (by kernel_rfl) (.string ⟨#[113, 117, 111, 116]⟩)
  go_enter Tryd.func40, Tryd.ntmps40
  go_wp2
  go_ret
  exact ⟨rfl, rfl⟩
/-- a byte, or its entity -/
def esc1 (c : UInt8) : List UInt8 := if c = 38 then [38, 97, 109, 112, 59] else if c = 60 then [38, 108, 116, 59] else if c = 62 then [38, 103, 116, 59] else if c = 39 then [38, 97, 112, 111, 115, 59] else if c = 34 then [38, 113, 117, 111, 116, 59] else [c]
def escL (s : List UInt8) : List UInt8 := s.flatMap esc1
theorem esc1_len (c : UInt8) : (esc1 c).length ≤ 6 := by
  unfold esc1
  repeat (split; · decide)
  simp
theorem escL_len (s : List UInt8) : (escL s).length ≤ 6 * s.length := by
  unfold escL
  induction s with
  | nil => simp
  | cons c s ih => rw [List.flatMap_cons, List.length_append, List.length_cons]; have := esc1_len c; omega
theorem escL_snoc (s : List UInt8) (k : Nat) (h : k < s.length) : escL (s.take (k + 1)) = escL (s.take k) ++ esc1 (s[k]'h) := by
  unfold escL
  rw [List.take_succ_eq_append_getElem h, List.flatMap_append, List.flatMap_cons, List.flatMap_nil, List.append_nil]
theorem infoB : (Tryd.prog.info? 5).map (fun i => (i.zero, i.size, i.bytes)) = some (some (.int .u8 0), 1, 1) := by kernel_rfl
theorem esc_cases (c : UInt8) : (∃ n : List UInt8, findKV (.int .u8) (.int .u8 (c.toNat : Int)) entKV = some (.string ⟨n.toArray⟩) ∧ esc1 c = [38] ++ n ++ [59] ∧ n.length ≤ 4) ∨ (findKV (.int .u8) (.int .u8 (c.toNat : Int)) entKV = none ∧ esc1 c = [c]) := by
  by_cases h1 : c = 38
  · subst h1; exact .inl ⟨[97, 109, 112], by kernel_rfl, by decide, by decide⟩
  by_cases h2 : c = 60
  · subst h2; exact .inl ⟨[108, 116], by kernel_rfl, by decide, by decide⟩
  by_cases h3 : c = 62
  · subst h3; exact .inl ⟨[103, 116], by kernel_rfl, by decide, by decide⟩
  by_cases h4 : c = 39
  · subst h4; exact .inl ⟨[97, 112, 111, 115], by kernel_rfl, by decide, by decide⟩
  by_cases h5 : c = 34
  · subst h5; exact .inl ⟨[113, 117, 111, 116], by kernel_rfl, by decide, by decide⟩
  refine .inr ⟨?_, by simp [esc1, h1, h2, h3, h4, h5]⟩
  have hn : ∀ k : UInt8, c ≠ k → ((c.toNat : Int) == (k.toNat : Int)) = false := fun k hk => by
    rw [beq_eq_false_iff_ne]; intro e; exact hk (UInt8.toNat_inj.1 (by exact_mod_cast e))
  have n1 := hn 38 h1
  have n2 := hn 60 h2
  have n3 := hn 62 h3
  have n4 := hn 39 h4
  have n5 := hn 34 h5
  simp only [show (((38 : UInt8).toNat : Nat) : Int) = 38 from rfl, show (((60 : UInt8).toNat : Nat) : Int) = 60 from rfl, show (((62 : UInt8).toNat : Nat) : Int) = 62 from rfl, show (((39 : UInt8).toNat : Nat) : Int) = 39 from rfl, show (((34 : UInt8).toNat : Nat) : Int) = 34 from rfl] at n1 n2 n3 n4 n5
  simp only [findKV, entKV, Instr.sameNow, if_true, n1, n2, n3, n4, n5]
  rfl
/-- a row of bytes of the call's own -/
abbrev OwnB (w : World) (base : Nat) (v : Value) (l : List UInt8) : Prop := w.ownsRow base 5 1 v l.length (Lib.byteCells l)
theorem ent_keys : ∀ p ∈ entKV, IsKey (.int .u8) p.1 := by
  intro p hp
  simp only [entKV, List.mem_cons, List.mem_nil_iff, or_false] at hp
  rcases hp with rfl | rfl | rfl | rfl | rfl <;> rfl
theorem strZero (w : World) : (zeroValue 9).run Tryd.prog w = .ok (.string ⟨#[]⟩) w := by kernel_rfl
theorem own_back {w : World} {base : Nat} {v : Value} {l : List UInt8} (h : OwnB w base v l) : (convert 22 9 v).run Tryd.prog w = .ok (.string ⟨l.toArray⟩) w := by
  rcases h.2 with ⟨rfl, h0⟩ | ⟨g, cap, cur, rfl, -, hg, -⟩
  · obtain rfl := List.length_eq_zero_iff.1 h0
    kernel_rfl
  · have hr : ∀ j (hj : j < l.length), w.cell? ⟨g, j, none⟩ = some (.int .u8 (l[j].toNat : Int)) := fun j hj => by
      have := World.ownsRow.cells h (g := g) rfl j (.int .u8 (l[j].toNat : Int)) (by simp [Lib.byteCells, hj])
      rwa [Addr.add_lit, Nat.zero_add] at this
    rw [run_convert_bytes_arg w 22 5 Tryd.underlying22 Tryd.underlying5 g 0 l.length cap (l.map fun c => (c.toNat : Int)) (by simp) (fun i hi => ?_) 9 Tryd.underlying9]
    · congr 2
      simp [strOfNums, Function.comp_def]
    · rw [Nat.zero_add, hr i hi]
      simp [List.getD, hi]
theorem own_snoc {w : World} {base : Nat} {v : Value} {l : List UInt8} {c : Int} (b : UInt8) (h : w.ownsRow base 5 1 v (l.length + 1) (Lib.byteCells l ++ [.int .u8 c])) (hc : c = (b.toNat : Int)) : OwnB w base v (l ++ [b]) := by
  subst hc
  show w.ownsRow base 5 1 v (l ++ [b]).length (Lib.byteCells (l ++ [b]))
  rw [Lib.byteCells_append, List.length_append]
  exact h
theorem own_str {w : World} {base : Nat} {v : Value} {l n : List UInt8} (h : w.ownsRow base 5 1 v (l.length + (ByteArray.mk n.toArray).size) (Lib.byteCells l ++ Lib.strCells ⟨n.toArray⟩)) : OwnB w base v (l ++ n) := by
  show w.ownsRow base 5 1 v (l ++ n).length (Lib.byteCells (l ++ n))
  rw [Lib.byteCells_append, List.length_append]
  exact h
theorem own_ne {w : World} {base b : Nat} {v : Value} {l : List UInt8} (h : OwnB w base v l) (hb : b < base) : some b ≠ v.ownBlock := fun e => by
  have := (h.lt b e.symm).1
  omega
set_option maxHeartbeats 4000000 in
theorem escape_any (s : List UInt8) (w : World) (hs : s.length ≤ 1099511627776) :
    Calls Tryd.prog 21 #[.string ⟨s.toArray⟩] w fun e w' => e = .returned (.string ⟨(escL s).toArray⟩) ∧ Below w.heap.size w w' := by
  obtain ⟨i0, hi, hz0, hz1, hz2⟩ := info_parts infoB
  have hlen := escL_len s
  go_enter Tryd.func21, Tryd.ntmps21
  go_wp2_with (go_at_call 40; refine (entities_any _).mono ?_; rintro e w1 ⟨rfl, rfl⟩)
  go_loopw [4, 11] (fun v i wr => ∃ k : Nat, k ≤ s.length ∧ i = .int .i64 k ∧ Hid (OwnB wr (w.heap.size + 1) v (escL (s.take k))) ∧ Hid (Ents wr w.heap.size entKV) ∧ Hid (Below w.heap.size w wr) ∧ w.heap.size + 1 ≤ wr.heap.size) (fun _ i _ => s.length - (intOf i).toNat)
  case atStart => exact ⟨0, Nat.zero_le _, rfl, World.ownsRow_nil _ _ _ _, ⟨entE, 5, (heap_alloc _ _).1, rfl⟩, below1 w _, by simp⟩
  case round =>
    obtain ⟨k, hk, rfl, hO, hE, hB, hS⟩ := hrel
    by_cases hlt : k < s.length
    · have hsn := escL_snoc s k hlt
      have hl6 := escL_len (s.take k)
      rw [List.length_take] at hl6
      have hlook := lookup_ents (P := Tryd.prog) (w := wr) true Tryd.underlying91 Tryd.underlying5 (strZero wr) hE ent_keys (key := .int .u8 (s[k].toNat : Int)) rfl
      rcases esc_cases s[k] with ⟨n, h1, h2, h3⟩ | ⟨h1, h2⟩
      · rw [h1] at hlook
        rw [h2] at hsn
        simp only [if_true, Option.getD_some, Option.isSome_some] at hlook
        go_wp2_with (first
          | (have m0 := m2; at_builtin; refine wpList_append_own _ rfl _ _ 22 rfl (w.heap.size + 1) 5 i0 (.int .u8 0) 1 1 Tryd.underlying22 hi hz0 hz1 hz2 rfl (by decide) _ _ _ rfl (hO2.alloc _) ⟨w2.heap.size, 0, none⟩ 1 1 [.int .u8 59] rfl rfl (cell_one_new _ _ _) (by simp [Value.oneCell']) (by unfold maxLen; simp; omega) (by simp; omega) (by simp; omega) ?_
             intro v3 w3 hO3 hg3 _
             replace hO3 := own_snoc 59 hO3 rfl
             have hE3 := (hE2.alloc (.cells #[.int .u8 59] 5)).grown hg3 (own_ne hO2 (by omega))
             have hB3 := (hB2.alloc (by omega) (.cells #[.int .u8 59] 5)).grown hg3 (by simp; omega) (fun k hk => by have := (hO2.lt k hk).1; omega)
             have hS3 : w.heap.size + 1 ≤ w3.heap.size := by have := hg3.size; simp at this; omega)
          | (have m0 := m1; at_builtin; refine Lib.wpList_append_own_string _ rfl _ _ 22 9 rfl (w.heap.size + 1) 5 i0 Tryd.underlying22 Tryd.underlying9 hi hz0 hz1 hz2 _ _ _ rfl hO1 ⟨n.toArray⟩ rfl (by unfold maxLen; simp [ByteArray.size]; omega) (by simp [ByteArray.size]; omega) (by omega) ?_
             intro v2 w2 hO2 hg2 _
             replace hO2 := own_str hO2
             have hE2 := hE1.grown hg2 (own_ne hO1 (by omega))
             have hB2 := hB1.grown hg2 (by omega) (fun k hk => by have := (hO1.lt k hk).1; omega)
             have hS2 : w.heap.size + 1 ≤ w2.heap.size := by have := hg2.size; omega
             have m2 := True.intro)
          | (at_builtin; refine wpList_append_own _ rfl _ _ 22 rfl (w.heap.size + 1) 5 i0 (.int .u8 0) 1 1 Tryd.underlying22 hi hz0 hz1 hz2 rfl (by decide) _ _ _ rfl (hO.alloc _) ⟨wr.heap.size, 0, none⟩ 1 1 [.int .u8 38] rfl rfl (cell_one_new _ _ _) (by simp [Value.oneCell']) (by unfold maxLen; omega) (by omega) (by simp; omega) ?_
             intro v1 w1 hO1 hg1 _
             replace hO1 := own_snoc 38 hO1 rfl
             have hE1 := (hE.alloc (.cells #[.int .u8 38] 5)).grown hg1 (own_ne hO (by omega))
             have hB1 := (hB.alloc (by omega) (.cells #[.int .u8 38] 5)).grown hg1 (by simp; omega) (fun k hk => by have := (hO.lt k hk).1; omega)
             have hS1 : w.heap.size + 1 ≤ w1.heap.size := by have := hg1.size; simp at this; omega
             have m1 := True.intro))
        go_roundw
        case rel =>
          refine ⟨k + 1, by omega, by go_num, ?_, hE3, hB3, hS3⟩
          rw [hsn]
          exact (by simpa using hO3 : OwnB w3 (w.heap.size + 1) v3 (escL (s.take k) ++ ([38] ++ n ++ [59])))
        case measure => simp [intOf]; omega
      · rw [h1] at hlook
        rw [h2] at hsn
        simp only [if_true, Option.getD_none, Option.isSome_none] at hlook
        go_wp2_with (at_builtin; refine wpList_append_own _ rfl _ _ 22 rfl (w.heap.size + 1) 5 i0 (.int .u8 0) 1 1 Tryd.underlying22 hi hz0 hz1 hz2 rfl (by decide) _ _ _ rfl (hO.alloc _) ⟨wr.heap.size, 0, none⟩ 1 1 [.int .u8 (s[k].toNat : Int)] rfl rfl (cell_one_new _ _ _) (by simp [Value.oneCell']) (by unfold maxLen; omega) (by omega) (by simp; omega) ?_
                     intro v1 w1 hO1 hg1 _
                     replace hO1 := own_snoc s[k] hO1 rfl
                     have hE1 := (hE.alloc (.cells #[.int .u8 (s[k].toNat : Int)] 5)).grown hg1 (own_ne hO (by omega))
                     have hB1 := (hB.alloc (by omega) (.cells #[.int .u8 (s[k].toNat : Int)] 5)).grown hg1 (by simp; omega) (fun k hk => by have := (hO.lt k hk).1; omega)
                     have hS1 : w.heap.size + 1 ≤ w1.heap.size := by have := hg1.size; simp at this; omega)
        go_roundw
        case rel =>
          refine ⟨k + 1, by omega, by go_num, ?_, hE1, hB1, hS1⟩
          rw [hsn]
          exact hO1
        case measure => simp [intOf]; omega
    · have e0 : s.take k = s := List.take_of_length_le (by omega)
      rw [e0] at hO
      have hconv := own_back hO
      go_wp2
      go_ret
      exact ⟨rfl, hB⟩
end Go.Proofs.YtjpdadibeocpfaaDoor
