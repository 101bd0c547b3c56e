/-
  The entities' map as a map that is ranged over; the map of names made from it. No condition.
-/
import Derived.Test.YtjpdadibeocpfaaDoorPrUneP
import Derived.Maps.RangeWalk
import Derived.Maps.StringElems
import Derived.Maps.OwnOps
namespace Go.Proofs.YtjpdadibeocpfaaDoor
set_option linter.unusedVariables false
set_option linter.unusedSimpArgs false
open Go.RowKit Go.MapKept Go.Maps Go.WideElems
theorem lawB : Keyed Tryd.prog 5 := int_keyed Tryd.underlying5
noncomputable def RS : Value → Option (DataW Unit × List MemPlace) := plainElem Tryd.prog 9
theorem rs_str (l : List UInt8) (h : l.length ≤ 10) : RS (.string ⟨l.toArray⟩) = some (.lit (.string l), []) := by
  have := plainElem_string (H := Unit) Tryd.underlying9 (s := ⟨l.toArray⟩) (by unfold maxLen; simp [ByteArray.size]; omega)
  unfold RS
  simpa using this
theorem key_u8 (c : UInt8) : keyOf Tryd.prog 5 (.int .u8 (c.toNat : Int)) = some (.int .u8 (c.toNat : Int)) := by
  have h : (Lit.int .u8 (c.toNat : Int)).wf = true := by
    have h1 : IntKind.u8.min = 0 := rfl
    have h2 : IntKind.u8.max = 255 := rfl
    have := UInt8.toNat_lt c
    simp [Lit.wf, h1, h2]
    omega
  simp [keyOf, Tryd.underlying5, mapKey, h]
noncomputable def entDL : List (Lit × DataW Unit) := [(.int .u8 38, .lit (.string [97, 109, 112])), (.int .u8 60, .lit (.string [108, 116])), (.int .u8 62, .lit (.string [103, 116])), (.int .u8 39, .lit (.string [97, 112, 111, 115])), (.int .u8 34, .lit (.string [113, 117, 111, 116]))]
theorem ent_rg : entE.toList.map (rg Tryd.prog 5 RS) = entDL := by
  have go : ∀ (c : UInt8) (n : List UInt8) (b : Nat), n.length ≤ 10 → rg Tryd.prog 5 RS ⟨.int .u8 (c.toNat : Int), .string ⟨n.toArray⟩, b⟩ = (.int .u8 (c.toNat : Int), .lit (.string n)) := fun c n b hn =>
    rg_of (rd_mk (key_u8 c) (rs_str n hn))
  have e1 := go 38 [97, 109, 112] 0 (by decide)
  have e2 := go 60 [108, 116] 1 (by decide)
  have e3 := go 62 [103, 116] 2 (by decide)
  have e4 := go 39 [97, 112, 111, 115] 3 (by decide)
  have e5 := go 34 [113, 117, 111, 116] 4 (by decide)
  have n1 : (((38 : UInt8).toNat : Nat) : Int) = 38 := rfl
  have n2 : (((60 : UInt8).toNat : Nat) : Int) = 60 := rfl
  have n3 : (((62 : UInt8).toNat : Nat) : Int) = 62 := rfl
  have n4 : (((39 : UInt8).toNat : Nat) : Int) = 39 := rfl
  have n5 : (((34 : UInt8).toNat : Nat) : Int) = 34 := rfl
  rw [n1] at e1
  rw [n2] at e2
  rw [n3] at e3
  rw [n4] at e4
  rw [n5] at e5
  unfold entE entDL
  simp only [List.map_cons, List.map_nil, e1, e2, e3, e4, e5]
noncomputable def entD : DataW Unit := .map (entDL.foldr DataW.insert [])
theorem ent_own {w : World} {b : Nat} (h : w.heap[b]? = some (.map entE 5)) : w.ownsMap Tryd.prog 5 RS b 5 entD := by
  have h1 : entE.size = 5 := rfl
  have h2 : entE.size ≤ maxLen := by rw [h1]; unfold maxLen; omega
  have h3 : Stamped entE 5 := ⟨by simp [entE], by simp [entE], by simp [entE]⟩
  have h4 : ∀ x ∈ entE.toList, ∃ y, rd Tryd.prog 5 RS x = some y := by
    have go : ∀ (c : UInt8) (n : List UInt8) (b : Nat), n.length ≤ 10 → ∃ y, rd Tryd.prog 5 RS ⟨.int .u8 (c.toNat : Int), .string ⟨n.toArray⟩, b⟩ = some y := fun c n b hn => ⟨_, rd_mk (key_u8 c) (rs_str n hn)⟩
    intro x hx
    simp only [entE, List.mem_cons, List.mem_nil_iff, or_false] at hx
    rcases hx with rfl | rfl | rfl | rfl | rfl
    · exact go 38 [97, 109, 112] 0 (by decide)
    · exact go 60 [108, 116] 1 (by decide)
    · exact go 62 [103, 116] 2 (by decide)
    · exact go 39 [97, 112, 111, 115] 3 (by decide)
    · exact go 34 [113, 117, 111, 116] 4 (by decide)
  have h5 : entD = .map ((entE.toList.map (rg Tryd.prog 5 RS)).foldr DataW.insert []) := by rw [ent_rg]; unfold entD; rfl
  exact ⟨entE, 5, h, ⟨h2, h3, h4⟩, Nat.le_of_eq h1, h5⟩
theorem ent_has (x : Int) : Maps.has entD (.int .u8 x) = true ↔ ∃ k, k < 5 ∧ x = ((eC k).toNat : Int) := by
  have e : Maps.has entD (.int .u8 x) = entDL.any (fun p => p.1.sameKey (.int .u8 x)) := by
    unfold entD
    rw [has_eq, Bool.eq_iff_iff, List.any_eq_true, List.any_eq_true]
    constructor
    · rintro ⟨p, hp, h⟩; exact ⟨p, mem_sorted.1 hp, h⟩
    · rintro ⟨p, hp, h⟩; exact ⟨p, mem_sorted.2 hp, h⟩
  rw [e]
  simp only [entDL, List.any_cons, List.any_nil, Lit.sameKey, Bool.or_false, Bool.or_eq_true]
  constructor
  · intro h
    rcases h with h | h | h | h | h
    · exact ⟨0, by omega, by simpa [eC, eq_comm] using h⟩
    · exact ⟨1, by omega, by simpa [eC, eq_comm] using h⟩
    · exact ⟨2, by omega, by simpa [eC, eq_comm] using h⟩
    · exact ⟨3, by omega, by simpa [eC, eq_comm] using h⟩
    · exact ⟨4, by omega, by simpa [eC, eq_comm] using h⟩
  · rintro ⟨k, hk, rfl⟩
    obtain rfl | rfl | rfl | rfl | rfl : k = 0 ∨ k = 1 ∨ k = 2 ∨ k = 3 ∨ k = 4 := by omega
    all_goals simp [eC]
theorem ent_at (k : Nat) (hk : k < 5) (zd : DataW Unit) : entD.atKey (.int .u8 ((eC k).toNat : Int)) zd = .lit (.string (eN k)) := by
  obtain rfl | rfl | rfl | rfl | rfl : k = 0 ∨ k = 1 ∨ k = 2 ∨ k = 3 ∨ k = 4 := by omega
  all_goals rfl
def namKV (ks : List Nat) : List (Value × Value) := ks.map fun k => (.string ⟨(eN k).toArray⟩, .int .u8 ((eC k).toNat : Int))
theorem nam_keys (ks : List Nat) : ∀ p ∈ namKV ks, IsKey .string p.1 := by
  intro p hp
  obtain ⟨k, -, rfl⟩ := List.mem_map.1 hp
  trivial
theorem eN_inj : ∀ k, k < 5 → ∀ m, m < 5 → eN k = eN m → k = m := by decide
theorem ba_beq (a b : List UInt8) : ((⟨a.toArray⟩ : ByteArray) == ⟨b.toArray⟩) = (a == b) := by
  show (a.toArray == b.toArray) = _
  simp
theorem nam_find {k : Nat} (hk : k < 5) : ∀ ks : List Nat, (∀ m ∈ ks, m < 5) → findKV .string (.string ⟨(eN k).toArray⟩) (namKV ks) = if ks.contains k then some (.int .u8 ((eC k).toNat : Int)) else none
  | [], _ => rfl
  | m :: ks, h => by
    have ih := nam_find hk ks fun x hx => h x (.tail _ hx)
    unfold namKV at *
    rw [List.map_cons, findKV, ih]
    by_cases e : k = m
    · subst e
      simp [Instr.sameNow, ba_beq]
    · have hne : (eN m == eN k) = false := by
        rw [beq_eq_false_iff_ne]; intro e2; exact e (eN_inj m (h m (.head _)) k hk e2).symm
      have hne2 : (eN k == eN m) = false := by rw [beq_eq_false_iff_ne] at *; exact fun x => hne x.symm
      simp [Instr.sameNow, ba_beq, e, hne, hne2]
end Go.Proofs.YtjpdadibeocpfaaDoor
