/-
  Bytes that are cut (plain): they are a map's only between two pairs. No program, no condition.
-/
import Derived.Test.YtfeiihmhdcnabaaKvLoadP
namespace Go.Proofs.Ytfeiihmhdcnabaa
set_option linter.unusedVariables false
set_option linter.unusedSimpArgs false
open Go.RowKit
def blE (E : Ats) (j : Nat) : Nat := (bytesE (E.take j)).length
def btw (E : Ats) (t : Nat) (i : Nat) : Bool := (List.range i).any fun j => blE E j == t
theorem btw_succ (E : Ats) (t i : Nat) : btw E t (i + 1) = (btw E t i || (blE E i == t)) := by
  unfold btw
  rw [List.range_succ, List.any_append]
  simp
theorem bl_succ {E : Ats} {i : Nat} (h : i < E.length) : blE E (i + 1) = blE E i + (3 + (E[i]'h).1.length + (E[i]'h).2.length) := by
  unfold blE
  rw [List.take_add_one, List.getElem?_eq_getElem h, bytes_app, List.length_append]
  congr 1
  show (bytesE [E[i]'h]).length = _
  rw [bytes_cons, List.length_append, pairB_len]
  rfl
theorem ok_take {E : Ats} (h : okE E) (j : Nat) : okE (E.take j) :=
  ⟨h.1.sublist (List.take_sublist j E), Nat.le_trans (by rw [List.length_take]; exact Nat.min_le_right _ _) h.2.1, fun e he => h.2.2 e (List.mem_of_mem_take he)⟩
theorem ofNat_inj {a b : Nat} (ha : a < 256) (hb : b < 256) (h : UInt8.ofNat a = UInt8.ofNat b) : a = b := by
  have := congrArg UInt8.toNat h
  simp at this
  omega
theorem pair_inj {f e : Txt × Txt} {X Y : Txt} (hf : okP f) (he : okP e) (h : pairB f ++ X = pairB e ++ Y) : f = e ∧ X = Y := by
  obtain ⟨fk, fv⟩ := f
  obtain ⟨ek, ev⟩ := e
  obtain ⟨-, f1, f2⟩ := hf
  obtain ⟨-, e1, e2⟩ := he
  simp only at f1 f2 e1 e2
  unfold pairB at h
  simp only [List.cons_append, List.append_assoc] at h
  obtain ⟨h0, h1⟩ := List.cons.inj h
  have hk := ofNat_inj (by omega) (by omega) h0
  obtain ⟨h2, h3⟩ := List.append_inj h1 hk
  obtain ⟨h4, h5⟩ := List.cons.inj h3
  obtain ⟨h6, h7⟩ := List.cons.inj h5
  have hv1 := ofNat_inj (a := fv.length / 256) (b := ev.length / 256) (by omega) (by omega) h4
  have hv2 := congrArg UInt8.toNat h6
  simp at hv2
  have hv : fv.length = ev.length := by omega
  obtain ⟨h8, h9⟩ := List.append_inj h7 hv
  exact ⟨by rw [h2, h8], h9⟩
theorem pre_of : ∀ {F E : Ats} {X : Txt}, (∀ e ∈ F, okP e) → (∀ e ∈ E, okP e) → bytesE F ++ X = bytesE E → ∃ j, j ≤ E.length ∧ F = E.take j
  | [], E, X, _, _, _ => ⟨0, Nat.zero_le _, by simp⟩
  | f :: F, [], X, _, _, h => by
    have := congrArg List.length h
    rw [bytes_cons, List.length_append, List.length_append, pairB_len] at this
    simp [bytesE] at this
  | f :: F, e :: E, X, hF, hE, h => by
    rw [bytes_cons, bytes_cons, List.append_assoc] at h
    obtain ⟨rfl, h1⟩ := pair_inj (hF f (by simp)) (hE e (by simp)) h
    obtain ⟨j, hj, rfl⟩ := pre_of (fun x hx => hF x (by simp [hx])) (fun x hx => hE x (by simp [hx])) h1
    exact ⟨j + 1, by simp; omega, by simp⟩
theorem cut_iff {E : Ats} (h : okE E) {t : Nat} (ht : t < (bytesE E).length) : (loadE ((bytesE E).take t)).isSome = btw E t E.length := by
  rw [Bool.eq_iff_iff]
  constructor
  · intro hs
    obtain ⟨F, hF⟩ := Option.isSome_iff_exists.1 hs
    obtain ⟨hok, hb⟩ := loadE_bytes hF
    obtain ⟨j, hj, rfl⟩ := pre_of (X := (bytesE E).drop t) hok.2.2 h.2.2 (by rw [hb, List.take_append_drop])
    have hl : (bytesE (E.take j)).length = t := by rw [hb, List.length_take]; omega
    have hjl : j ≠ E.length := fun e => by
      rw [e, List.take_length] at hl
      omega
    unfold btw
    rw [List.any_eq_true]
    exact ⟨j, List.mem_range.2 (by omega), by simp [blE, hl]⟩
  · intro hb
    unfold btw at hb
    obtain ⟨j, hj, he⟩ := List.any_eq_true.1 hb
    have he' : blE E j = t := by simpa using he
    have e1 : (bytesE E).take t = bytesE (E.take j) := by
      have : bytesE E = bytesE (E.take j) ++ bytesE (E.drop j) := by rw [← bytes_app, List.take_append_drop]
      rw [this, ← he']
      exact List.take_left
    rw [e1, load_bytes (ok_take h j)]
    rfl
end Go.Proofs.Ytfeiihmhdcnabaa
