/-
  What a stanza's tokens say, one attribute after the other (plain); where the fields of a stanza lie. No condition.
-/
import Derived.Test.YtpgojinfhfipeaaStEnc
import Derived.Test.YtpgojinfhfipeaaStInside
namespace Go.Proofs.Ytpgojinfhfipeaa
set_option linter.unusedVariables false
set_option linter.unusedSimpArgs false
open Go.RowKit Go.MapKept
theorem decA_app (z : Sz) : ∀ (a b : Ats), decA z (a ++ b) = match decA z a with | some z' => decA z' b | none => none := by
  intro a
  induction a generalizing z with
  | nil => intro b; rfl
  | cons p a ih =>
    intro b
    rw [List.cons_append, decA, decA]
    cases setZ z p with
    | none => rfl
    | some z' => exact ih z' b
theorem decA_step {z z' : Sz} {al : Ats} {j : Nat} (h : j < al.length) (ha : decA z (al.take j) = some z') : decA z (al.take (j + 1)) = setZ z' (al[j]'h) := by
  rw [List.take_succ_eq_append_getElem h, decA_app, ha]
  show decA z' [al[j]] = _
  unfold decA
  cases setZ z' al[j] <;> rfl
theorem decA_stop {z z' : Sz} {al : Ats} {j : Nat} (h : j < al.length) (ha : decA z (al.take j) = some z') (hn : setZ z' (al[j]'h) = none) : decA z al = none := by
  have e : al = al.take (j + 1) ++ al.drop (j + 1) := (List.take_append_drop _ _).symm
  rw [e, decA_app, decA_step h ha, hn]
def Sz.smallF (z : Sz) : Prop := z.ty.length ≤ 140737488351232 ∧ z.fr.length ≤ 140737488351232 ∧ z.tt.length ≤ 140737488351232 ∧ z.id.length ≤ 140737488351232
theorem decA_small {al : Ats} (hb : ∀ p ∈ al, p.1.length ≤ 140737488351232 ∧ p.2.length ≤ 140737488351232) : ∀ {z z' : Sz}, z.smallF → decA z al = some z' → z'.smallF ∧ z'.k = z.k ∧ z'.pl = z.pl := by
  induction al with
  | nil => intro z z' hz h; injection h with h; subst h; exact ⟨hz, rfl, rfl⟩
  | cons p al ih =>
    intro z z' hz h
    unfold decA at h
    have hp := (hb p (by simp)).2
    have ih' := fun {z z'} => ih (fun q hq => hb q (by simp [hq])) (z := z) (z' := z')
    cases hs : setZ z p with
    | none => rw [hs] at h; cases h
    | some z1 =>
      rw [hs] at h
      obtain ⟨h1, h2, h3, h4⟩ := hz
      have : z1.smallF ∧ z1.k = z.k ∧ z1.pl = z.pl := by
        unfold setZ at hs
        split at hs
        · injection hs with hs; subst hs; exact ⟨⟨hp, h2, h3, h4⟩, rfl, rfl⟩
        · split at hs
          · injection hs with hs; subst hs; exact ⟨⟨h1, hp, h3, h4⟩, rfl, rfl⟩
          · split at hs
            · injection hs with hs; subst hs; exact ⟨⟨h1, h2, hp, h4⟩, rfl, rfl⟩
            · split at hs
              · injection hs with hs; subst hs; exact ⟨⟨h1, h2, h3, hp⟩, rfl, rfl⟩
              · cases hs
      obtain ⟨a, b, c⟩ := ih' this.1 h
      exact ⟨a, b.trans this.2.1, c.trans this.2.2⟩
/-- the last kind of those up to j whose name is n -/
def kdTo (n : List UInt8) : Nat → Nat
  | 0 => 0
  | j + 1 => if nameK (j + 1) = n then j + 1 else kdTo n j
theorem kdTo_3 (n : List UInt8) : kdTo n 3 = kindN n := by
  unfold kindN
  show (if preL = n then 3 else if msgL = n then 2 else if iqL = n then 1 else 0) = _
  simp only [eq_comm]
theorem kdTo_le (n : List UInt8) : ∀ j, kdTo n j ≤ j
  | 0 => Nat.le_refl _
  | j + 1 => by unfold kdTo; split; · exact Nat.le_refl _
                · have := kdTo_le n j; omega
theorem whole_two {l : List Tk} (h : wholeL l = true) : 2 ≤ l.length := by
  obtain ⟨h1, h2, h3⟩ := whole_right h
  have ho := right_ops h1
  rcases Nat.lt_or_ge l.length 2 with hl | hl
  · exfalso
    match l, h2, hl, ho with
    | [tk], _, _, ho =>
      have : opsTo [tk] 1 = stepT 0 [] tk := rfl
      rw [show [tk].length = 1 from rfl, this] at ho
      unfold stepT at ho
      split at ho
      · cases ho
      · split at ho
        · injection ho with ho; simp at ho
        · split at ho
          · rename_i h; exact absurd h.2.1 (by simp)
          · split at ho
            · rename_i h; exact absurd h.2.1 (by simp)
            · cases ho
  · exact hl
theorem TkS.mid {w : World} {b o c : Nat} {l : List Tk} (h : TkS w (.slice (some ⟨b, o, none⟩) l.length c) l) (h2 : 2 ≤ l.length) : TkS w (.slice (some ⟨b, o + 4, none⟩) (l.length - 2) (c - 1)) ((l.drop 1).take (l.length - 2)) := by
  obtain ⟨ptr, cap, he, h1, h1', h3⟩ := h
  injection he with e1 e2 e3
  subst e3
  obtain ⟨b', o', e4, hb, hc⟩ := h3 (by omega)
  rw [← e1] at e4
  injection e4 with e4
  injection e4 with e4 e5 _
  subst e4 e5
  have hlen : ((l.drop 1).take (l.length - 2)).length = l.length - 2 := by simp; omega
  refine ⟨_, _, by rw [hlen], by rw [hlen]; omega, by omega, fun _ => ⟨b, o + 4, rfl, hb, fun i hi => ?_⟩⟩
  rw [hlen] at hi
  obtain ⟨sv, d0, d1, d2, d3, d4⟩ := hc (i + 1) (by omega)
  have e : ((l.drop 1).take (l.length - 2))[i]'(by rw [hlen]; exact hi) = l[i + 1]'(by omega) := by simp [Nat.add_comm]
  rw [e]
  refine ⟨sv, ?_, ?_, ?_, ?_, d4⟩
  · rw [show o + 4 + i * 4 = o + (i + 1) * 4 by omega]; exact d0
  · rw [show o + 4 + i * 4 + 1 = o + (i + 1) * 4 + 1 by omega]; exact d1
  · rw [show o + 4 + i * 4 + 2 = o + (i + 1) * 4 + 2 by omega]; exact d2
  · rw [show o + 4 + i * 4 + 3 = o + (i + 1) * 4 + 3 by omega]; exact d3
def kvP (b : Nat) : List (Value × Value) := [(.string ⟨#[116, 121, 112, 101]⟩, .pointer (some ⟨b, 1, none⟩)), (.string ⟨#[102, 114, 111, 109]⟩, .pointer (some ⟨b, 2, none⟩)), (.string ⟨#[116, 111]⟩, .pointer (some ⟨b, 3, none⟩)), (.string ⟨#[105, 100]⟩, .pointer (some ⟨b, 4, none⟩))]
theorem kvP_keys (b : Nat) : ∀ p ∈ kvP b, IsKey .string p.1 := by
  intro p hp
  simp only [kvP, List.mem_cons, List.mem_nil_iff, or_false] at hp
  rcases hp with rfl | rfl | rfl | rfl <;> trivial
theorem sameS (x n : List UInt8) : Instr.sameNow .string (.string ⟨x.toArray⟩) (.string ⟨n.toArray⟩) = some (x == n) := by
  simp only [Instr.sameNow, Option.some.injEq]
  rw [Bool.eq_iff_iff, bytes_beq]
  simp
theorem ptr_find (b : Nat) (nm : List UInt8) : findKV .string (.string ⟨nm.toArray⟩) (kvP b) = if nm = tyL then some (.pointer (some ⟨b, 1, none⟩)) else if nm = frL then some (.pointer (some ⟨b, 2, none⟩)) else if nm = toL then some (.pointer (some ⟨b, 3, none⟩)) else if nm = idL then some (.pointer (some ⟨b, 4, none⟩)) else none := by
  have e1 : Instr.sameNow .string (.string ⟨nm.toArray⟩) (.string ⟨#[116, 121, 112, 101]⟩) = some (nm == tyL) := sameS nm tyL
  have e2 : Instr.sameNow .string (.string ⟨nm.toArray⟩) (.string ⟨#[102, 114, 111, 109]⟩) = some (nm == frL) := sameS nm frL
  have e3 : Instr.sameNow .string (.string ⟨nm.toArray⟩) (.string ⟨#[116, 111]⟩) = some (nm == toL) := sameS nm toL
  have e4 : Instr.sameNow .string (.string ⟨nm.toArray⟩) (.string ⟨#[105, 100]⟩) = some (nm == idL) := sameS nm idL
  simp only [kvP, findKV, e1, e2, e3, e4, Option.some.injEq, beq_iff_eq]
def objZ (z : Sz) (sv : Value) : Obj := .cells #[.int .u8 z.k, .string ⟨z.ty.toArray⟩, .string ⟨z.fr.toArray⟩, .string ⟨z.tt.toArray⟩, .string ⟨z.id.toArray⟩, sv] 25
theorem obj_cells {W : World} {b : Nat} {cs : Array Value} {t : TypeId} (h : W.heap[b]? = some (.cells cs t)) : (∀ i, W.cell? ⟨b, i, none⟩ = cs[i]?) ∧ (∀ i, W.frozen? ⟨b, i, none⟩ = false) ∧ b < W.heap.size :=
  ⟨fun i => by simp [World.cell?, h], fun i => by simp [World.frozen?, h], (Array.getElem?_eq_some_iff.1 h).1⟩
theorem obj_set {W : World} {b i : Nat} {cs : Array Value} {t : TypeId} (h : W.heap[b]? = some (.cells cs t)) (v : Value) : (W.setCell ⟨b, i, none⟩ v).heap[b]? = some (.cells (cs.setIfInBounds i v) t) := by
  simp [World.setCell, Array.getElem?_modify, h]
theorem obj_alloc {W : World} {b : Nat} {o o' : Obj} (h : W.heap[b]? = some o) : (W.alloc o').heap[b]? = some o := by
  rw [(heap_alloc W o').2 b (Array.getElem?_eq_some_iff.1 h).1, h]
end Go.Proofs.Ytpgojinfhfipeaa
