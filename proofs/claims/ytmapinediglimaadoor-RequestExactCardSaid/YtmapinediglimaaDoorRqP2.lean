/-
  Laws of requests: unlike ones have unlike payloads; a payload with one attribute more, or less, is none. No program, no condition.
-/
import Derived.Test.YtmapinediglimaaDoorRqPure
namespace Go.Proofs.YtmapinediglimaaDoor
set_option linter.unusedVariables false
set_option linter.unusedSimpArgs false
open Go.RowKit Go.MapKept
theorem toks_inj {a b : Rq} (ha : rightR a = true) (hb : rightR b = true) : sameL (toksR a) (toksR b) = eqR a b := by
  rw [Bool.eq_iff_iff, sameL_iff, eqR_iff]
  constructor
  · intro h
    rw [← read_toks ha, ← read_toks hb, h]
  · rintro rfl
    rfl
theorem dec_toks {r : Rq} (h : rightR r = true) : decR (toksR r) = some r := by
  have hl : (toksR r).length = 4 ∨ (toksR r).length = 5 := by
    unfold toksR elemL insideR
    split <;> simp
  unfold decR
  rw [if_pos hl, read_toks h, h, if_pos (by rw [Bool.true_and]; exact sameL_iff.2 rfl)]
theorem dec_some {l : List Tk} {r : Rq} (h : decR l = some r) : rightR r = true ∧ toksR r = l := by
  unfold decR at h
  split at h
  · split at h
    · rename_i h2
      injection h with h
      subst h
      simp only [Bool.and_eq_true] at h2
      exact ⟨h2.1, sameL_iff.1 h2.2⟩
    · cases h
  · cases h
theorem toks_at (r : Rq) : (toksR r)[1]? = some ⟨1, verbL r.vb, attrsR r, []⟩ := rfl
theorem toks_len (r : Rq) : (toksR r).length = 4 + (insideR r.tx).length := by simp [toksR, elemL]; omega
theorem attrs_len {r s : Rq} (h : r.vb = s.vb) : (attrsR r).length = (attrsR s).length := by
  unfold attrsR moreA
  rw [h]
  simp only [List.length_cons]
  repeat' split
  all_goals rfl
theorem verb_inj {m n : Nat} (hm : 1 ≤ m ∧ m ≤ 15) (hn : 1 ≤ n ∧ n ≤ 15) (h : verbL m = verbL n) : m = n := by
  rw [← verb_back hm, ← verb_back hn, h]
/-- other attributes in number: it says nothing -/
theorem dec_other {r : Rq} (h : rightR r = true) (al : Ats) (hl : al.length ≠ (attrsR r).length) : decR ((toksR r).set 1 ⟨1, verbL r.vb, al, []⟩) = none := by
  cases hd : decR ((toksR r).set 1 ⟨1, verbL r.vb, al, []⟩) with
  | none => rfl
  | some x =>
    obtain ⟨hx, ht⟩ := dec_some hd
    have h1 := toks_at x
    have hlen : 1 < (toksR r).length := by rw [toks_len]; omega
    rw [ht, List.getElem?_set_self hlen] at h1
    injection h1 with h1
    injection h1 with _ h2 h3 _
    have hv := verb_inj (right_parts h).2.2.1 (right_parts hx).2.2.1 h2
    rw [h3, attrs_len hv] at hl
    exact absurd rfl hl
theorem verb_pub {n : Nat} (h : 1 ≤ n ∧ n ≤ 15) : verbL n ≠ pubsubW := by
  rcases vb_cases h with rfl | rfl | rfl | rfl | rfl | rfl | rfl | rfl | rfl | rfl | rfl | rfl | rfl | rfl | rfl <;> decide
/-- without its first token -/
theorem dec_tail {r : Rq} (h : rightR r = true) : decR ((toksR r).drop 1) = none := by
  cases hd : decR ((toksR r).drop 1) with
  | none => rfl
  | some x =>
    obtain ⟨hx, ht⟩ := dec_some hd
    have h0 : (toksR x)[0]? = some ⟨1, pubsubW, [], []⟩ := rfl
    have h1 := toks_at r
    rw [ht, List.getElem?_drop, h1] at h0
    injection h0 with h0
    injection h0 with _ h2 _ _
    exact absurd h2 (verb_pub (right_parts h).2.2.1)
end Go.Proofs.YtmapinediglimaaDoor
/-
  What the attributes say, one by one. No program, no condition.
-/
namespace Go.Proofs.YtmapinediglimaaDoor
set_option linter.unusedVariables false
set_option linter.unusedSimpArgs false
open Go.RowKit Go.MapKept
theorem readA_step {r : Rq} {al : Ats} {j : Nat} (h : j < al.length) : readA r (al.take (j + 1)) = setR (readA r (al.take j)) (al[j]'h) := by
  unfold readA
  rw [List.take_add_one, List.getElem?_eq_getElem h, List.foldl_append]
  rfl
theorem set_none (r : Rq) (k v : List UInt8) (h1 : k ≠ nodeW) (h2 : k ≠ itemW) (h3 : k ≠ jidW) (h4 : k ≠ parentW) (h5 : k ≠ roleW) (h6 : k ≠ accessW) (h7 : k ≠ typeW) (h8 : k ≠ maxW) (h9 : k ≠ depthW) : setR r (k, v) = r := by
  simp only [setR, if_neg h1, if_neg h2, if_neg h3, if_neg h4, if_neg h5, if_neg h6, if_neg h7, if_neg h8, if_neg h9]
theorem readR_at {l : List Tk} (h : 1 < l.length) : readR l = { readA (zeroR (verbN (l[1]'h).n)) (l[1]'h).as with tx := if l.length = 5 then (l[2]?.map Tk.t).getD [] else [] } := by
  unfold readR
  rw [List.getElem?_eq_getElem h]
  rfl
theorem set_tx (r : Rq) (p : List UInt8 × List UInt8) : (setR r p).tx = r.tx := by
  unfold setR
  repeat' split
  all_goals rfl
theorem readA_tx' : ∀ (al : Ats) (r : Rq), (readA r al).tx = r.tx
  | [], _ => rfl
  | p :: al, r => by
    show (readA (setR r p) al).tx = r.tx
    rw [readA_tx' al, set_tx]
theorem readA_tx (r : Rq) (al : Ats) : (readA r al).tx = r.tx := readA_tx' al r
end Go.Proofs.YtmapinediglimaaDoor
