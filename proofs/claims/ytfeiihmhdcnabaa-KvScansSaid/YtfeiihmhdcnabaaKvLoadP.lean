/-
  The map of bytes (plain): step by step; it is the inverse of the bytes. No program, no condition.
-/
import Derived.Test.YtfeiihmhdcnabaaKvPure
namespace Go.Proofs.Ytfeiihmhdcnabaa
set_option linter.unusedVariables false
set_option linter.unusedSimpArgs false
open Go.RowKit
/-- one pair taken off -/
def stepL (E : Ats) (last b : Txt) : Option (Ats × Txt × Txt) :=
  if (b.drop 1).length < (b.getD 0 0).toNat then none
  else if ((b.drop 1).drop (b.getD 0 0).toNat).length < 2 then none
  else if ¬ last < (b.drop 1).take (b.getD 0 0).toNat then none
  else if (((b.drop 1).drop (b.getD 0 0).toNat).drop 2).length < (((b.drop 1).drop (b.getD 0 0).toNat).getD 0 0).toNat * 256 + (((b.drop 1).drop (b.getD 0 0).toNat).getD 1 0).toNat then none
  else if (putE E ((b.drop 1).take (b.getD 0 0).toNat) ((((b.drop 1).drop (b.getD 0 0).toNat).drop 2).take ((((b.drop 1).drop (b.getD 0 0).toNat).getD 0 0).toNat * 256 + (((b.drop 1).drop (b.getD 0 0).toNat).getD 1 0).toNat))).2 ≠ 0 then none
  else some ((putE E ((b.drop 1).take (b.getD 0 0).toNat) ((((b.drop 1).drop (b.getD 0 0).toNat).drop 2).take ((((b.drop 1).drop (b.getD 0 0).toNat).getD 0 0).toNat * 256 + (((b.drop 1).drop (b.getD 0 0).toNat).getD 1 0).toNat))).1, (b.drop 1).take (b.getD 0 0).toNat, (((b.drop 1).drop (b.getD 0 0).toNat).drop 2).drop ((((b.drop 1).drop (b.getD 0 0).toNat).getD 0 0).toNat * 256 + (((b.drop 1).drop (b.getD 0 0).toNat).getD 1 0).toNat))
def loadF : Nat → Ats → Txt → Txt → Option Ats
  | 0, E, _, b => if b = [] then some E else none
  | n + 1, E, last, b => if b = [] then some E else match stepL E last b with
    | none => none
    | some q => loadF n q.1 q.2.1 q.2.2
def loadE (b : Txt) : Option Ats := loadF b.length [] [] b
/-- what a pair taken off is -/
theorem stepL_some {E : Ats} {last b : Txt} {q : Ats × Txt × Txt} (h : stepL E last b = some q) (hb : b ≠ []) : ∃ k v r : Txt, ∃ c x y : UInt8, b = c :: (k ++ x :: y :: (v ++ r)) ∧ c.toNat = k.length ∧ x.toNat * 256 + y.toNat = v.length ∧ last < k ∧ (putE E k v).2 = 0 ∧ q = ((putE E k v).1, k, r) := by
  cases b with
  | nil => exact absurd rfl hb
  | cons c l =>
    unfold stepL at h
    simp only [List.drop_succ_cons, List.drop_zero, List.getD_cons_zero] at h
    split at h
    · cases h
    · rename_i h1
      split at h
      · cases h
      · rename_i h2
        split at h
        · cases h
        · rename_i h3
          split at h
          · cases h
          · rename_i h4
            split at h
            · cases h
            · rename_i h5
              obtain ⟨x, y, r2, hr⟩ : ∃ x y r2, l.drop c.toNat = x :: y :: r2 := by
                cases hd : l.drop c.toNat with
                | nil => rw [hd] at h2; simp at h2
                | cons x t =>
                  cases t with
                  | nil => rw [hd] at h2; simp at h2
                  | cons y r2 => exact ⟨x, y, r2, rfl⟩
              rw [hr] at h h4 h5
              simp only [List.drop_succ_cons, List.drop_zero, List.getD_cons_zero, List.getD_cons_succ] at h h4 h5
              refine ⟨l.take c.toNat, r2.take (x.toNat * 256 + y.toNat), r2.drop (x.toNat * 256 + y.toNat), c, x, y, ?_, ?_, ?_, Classical.not_not.1 h3, Classical.not_not.1 h5, (Option.some.inj h).symm⟩
              · rw [List.take_append_drop, ← hr, List.take_append_drop]
              · rw [List.length_take]; omega
              · rw [List.length_take]; omega
theorem stepL_of {E : Ats} {last k v r : Txt} {c x y : UInt8} (hc : c.toNat = k.length) (hv : x.toNat * 256 + y.toNat = v.length) (hl : last < k) (hp : (putE E k v).2 = 0) : stepL E last (c :: (k ++ x :: y :: (v ++ r))) = some ((putE E k v).1, k, r) := by
  have e1 : (c :: (k ++ x :: y :: (v ++ r))).drop 1 = k ++ x :: y :: (v ++ r) := rfl
  have e2 : (k ++ x :: y :: (v ++ r)).drop k.length = x :: y :: (v ++ r) := List.drop_left
  have e3 : (k ++ x :: y :: (v ++ r)).take k.length = k := List.take_left
  unfold stepL
  simp only [e1, List.getD_cons_zero, hc, e2, e3, List.drop_succ_cons, List.drop_zero, List.getD_cons_succ, hv]
  rw [List.take_left, List.drop_left]
  rw [if_neg (by simp), if_neg (by simp), if_neg (by simpa using hl), if_neg (by simp), if_neg (by simpa using hp)]
theorem put_last {E : Ats} {k v : Txt} (h : (putE E k v).2 = 0) (hg : ∀ e ∈ E, e.1 < k) : (putE E k v).1 = E ++ [(k, v)] ∧ okP (k, v) := by
  unfold putE at h ⊢
  split at h
  · cases h
  · rename_i h1
    split at h
    · cases h
    · rename_i h2
      rw [if_neg h1, if_neg h2]
      refine ⟨?_, fun e => h1 (.inl e), Nat.le_of_not_lt fun e => h1 (.inr (.inl e)), Nat.le_of_not_lt fun e => h1 (.inr (.inr e))⟩
      clear h h1 h2
      induction E with
      | nil => rfl
      | cons e r ih =>
        have h0 := hg e (by simp)
        show insE k v (e :: r) = e :: (r ++ [(k, v)])
        unfold insE
        rw [if_neg (fun h' => tl_irrefl _ (tl_trans h0 h')), if_neg (fun e' => by rw [e'] at h0; exact tl_irrefl _ h0), show insE k v r = r ++ [(k, v)] from ih (fun x hx => hg x (by simp [hx]))]
theorem pair_bytes {k v : Txt} {c x y : UInt8} (hc : c.toNat = k.length) (hv : x.toNat * 256 + y.toNat = v.length) : pairB (k, v) = c :: (k ++ x :: y :: v) := by
  have hy := y.toNat_lt
  have hx := x.toNat_lt
  have e1 : UInt8.ofNat k.length = c := by rw [← hc]; simp
  have e2 : UInt8.ofNat (v.length / 256) = x := by rw [← hv, show (x.toNat * 256 + y.toNat) / 256 = x.toNat by omega]; simp
  have e3 : UInt8.ofNat v.length = y := by
    rw [← hv]
    apply UInt8.toNat_inj.1
    simp <;> omega
  show UInt8.ofNat k.length :: (k ++ (UInt8.ofNat (v.length / 256) :: UInt8.ofNat v.length :: v)) = _
  rw [e1, e2, e3]
/-- what comes of bytes has these bytes -/
theorem loadF_bytes : ∀ {n : Nat} {E F : Ats} {last b : Txt}, loadF n E last b = some F → okE E → (∀ e ∈ E, e.1 = last ∨ e.1 < last) → okE F ∧ bytesE F = bytesE E ++ b
  | 0, E, F, last, b, h, hok, _ => by
    unfold loadF at h
    split at h
    · rename_i hb
      cases h
      exact ⟨hok, by rw [hb, List.append_nil]⟩
    · cases h
  | n + 1, E, F, last, b, h, hok, hl => by
    unfold loadF at h
    split at h
    · rename_i hb
      cases h
      exact ⟨hok, by rw [hb, List.append_nil]⟩
    · rename_i hb
      cases hs : stepL E last b with
      | none => rw [hs] at h; cases h
      | some q =>
        rw [hs] at h
        obtain ⟨k, v, r, c, x, y, rfl, hc, hv, hlt, hp, rfl⟩ := stepL_some hs hb
        have hg : ∀ e ∈ E, e.1 < k := fun e he => (hl e he).elim (fun e' => by rw [e']; exact hlt) (fun h' => tl_trans h' hlt)
        obtain ⟨e1, e2⟩ := put_last hp hg
        have hok2 := ok_put hok k v
        obtain ⟨h1, h2⟩ := loadF_bytes (n := n) h hok2 (by
          intro e he
          simp only [e1, List.mem_append, List.mem_singleton] at he
          rcases he with he | rfl
          · exact .inr (hg e he)
          · exact .inl rfl)
        refine ⟨h1, ?_⟩
        rw [h2]
        show bytesE (putE E k v).1 ++ r = _
        rw [e1, bytes_app, List.append_assoc]
        congr 1
        show pairB (k, v) ++ [] ++ r = _
        rw [pair_bytes hc hv]
        simp
theorem loadE_bytes {b : Txt} {F : Ats} (h : loadE b = some F) : okE F ∧ bytesE F = b := by
  have := loadF_bytes h ok_nil (fun e he => by cases he)
  exact ⟨this.1, by rw [this.2]; rfl⟩
theorem loadF_of : ∀ {n : Nat} {E G : Ats} {last : Txt}, okE (E ++ G) → (∀ e ∈ E, e.1 = last ∨ e.1 < last) → (∀ e ∈ G, last < e.1) → (bytesE G).length ≤ n → loadF n E last (bytesE G) = some (E ++ G)
  | 0, E, G, last, _, _, _, hn => by
    have : G = [] := by
      cases G with
      | nil => rfl
      | cons e r => rw [bytes_cons, List.length_append, pairB_len] at hn; omega
    subst this
    simp [loadF, bytesE]
  | n + 1, E, G, last, hok, hE, hG, hn => by
    cases G with
    | nil => simp [loadF, bytesE]
    | cons e r =>
      obtain ⟨k, v⟩ := e
      have hkv := hok.2.2 (k, v) (by simp)
      have hc : (UInt8.ofNat k.length).toNat = k.length := by have := hkv.2.1; simp; simp only at this; omega
      have hlt := hG (k, v) (by simp)
      have hv : (UInt8.ofNat (v.length / 256)).toNat * 256 + (UInt8.ofNat v.length).toNat = v.length := by have := hkv.2.2; simp; simp only at this; omega
      have hsort : sortE (E ++ (k, v) :: r) := hok.1
      have hEk : ∀ e ∈ E, e.1 < k := fun e he => (List.pairwise_append.1 hsort).2.2 e he (k, v) (by simp)
      have hp : (putE E k v).2 = 0 := by
        unfold putE
        rw [if_neg (fun h => h.elim hkv.1 (fun h => h.elim (fun h => by have := hkv.2.1; simp only at this; omega) (fun h => by have := hkv.2.2; simp only at this; omega))), if_neg (fun h => by have := hok.2.1; simp at this; omega)]
      obtain ⟨e1, -⟩ := put_last hp hEk
      have hb : bytesE ((k, v) :: r) = UInt8.ofNat k.length :: (k ++ UInt8.ofNat (v.length / 256) :: UInt8.ofNat v.length :: (v ++ bytesE r)) := by
        rw [bytes_cons, pair_bytes hc hv]
        simp
      have hst := stepL_of (E := E) (last := last) (r := bytesE r) hc hv hlt hp
      unfold loadF
      rw [hb, if_neg (by simp), hst]
      show loadF n (putE E k v).1 k (bytesE r) = _
      rw [e1]
      have hEr : E ++ (k, v) :: r = (E ++ [(k, v)]) ++ r := by simp
      rw [hEr] at hok ⊢
      refine loadF_of hok ?_ ?_ ?_
      · intro e he
        simp only [List.mem_append, List.mem_singleton] at he
        rcases he with he | rfl
        · exact .inr (hEk e he)
        · exact .inl rfl
      · intro e he
        have := (List.pairwise_append.1 hsort).2.1
        exact (List.pairwise_cons.1 this).1 e he
      · rw [bytes_cons, List.length_append, pairB_len] at hn
        omega
/-- the map of a map's bytes is the map -/
theorem load_bytes {E : Ats} (h : okE E) : loadE (bytesE E) = some E :=
  loadF_of (E := []) (G := E) h (fun e he => by cases he) (fun e he => by
    have := (h.2.2 e he).1
    cases hk : e.1 with
    | nil => exact absurd hk this
    | cons a t => exact List.nil_lt_cons a t) (Nat.le_refl _)
end Go.Proofs.Ytfeiihmhdcnabaa
