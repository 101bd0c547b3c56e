/-
  Laws of requests: unlike ones have unlike payloads; a payload with one attribute more, or less, is none. No program, no condition.
-/
import Derived.Test.YtmapinediglimaaDoorRqPure
import Derived.Laws.RangeAny
namespace Go.Proofs.YtmapinediglimaaDoor
set_option linter.unusedVariables false
set_option linter.unusedSimpArgs false
open Go.RowKit Go.MapKept
theorem toks_inj {a b : Rq} (ha : rightR a = true) (hb : rightR b = true) : sameL (toksR a) (toksR b) = eqR a b := by
  rw [Bool.eq_iff_iff, sameL_iff, eqR_iff]
  constructor
  · intro h
    rw [← read_toks ha, ← read_toks hb, h]
  · rintro rfl
    rfl
theorem dec_toks {r : Rq} (h : rightR r = true) : decR (toksR r) = some r := by
  have hl : (toksR r).length = 4 ∨ (toksR r).length = 5 := by
    unfold toksR elemL insideR
    split <;> simp
  unfold decR
  rw [if_pos hl, read_toks h, h, if_pos (by rw [Bool.true_and]; exact sameL_iff.2 rfl)]
theorem dec_some {l : List Tk} {r : Rq} (h : decR l = some r) : rightR r = true ∧ toksR r = l := by
  unfold decR at h
  split at h
  · split at h
    · rename_i h2
      injection h with h
      subst h
      simp only [Bool.and_eq_true] at h2
      exact ⟨h2.1, sameL_iff.1 h2.2⟩
    · cases h
  · cases h
theorem toks_at (r : Rq) : (toksR r)[1]? = some ⟨1, verbL r.vb, attrsR r, []⟩ := rfl
theorem toks_len (r : Rq) : (toksR r).length = 4 + (insideR r.tx).length := by simp [toksR, elemL]; omega
theorem attrs_len {r s : Rq} (h : r.vb = s.vb) : (attrsR r).length = (attrsR s).length := by
  unfold attrsR moreA
  rw [h]
  simp only [List.length_cons]
  repeat' split
  all_goals rfl
theorem verb_inj {m n : Nat} (hm : 1 ≤ m ∧ m ≤ 15) (hn : 1 ≤ n ∧ n ≤ 15) (h : verbL m = verbL n) : m = n := by
  rw [← verb_back hm, ← verb_back hn, h]
/-- other attributes in number: it says nothing -/
theorem dec_other {r : Rq} (h : rightR r = true) (al : Ats) (hl : al.length ≠ (attrsR r).length) : decR ((toksR r).set 1 ⟨1, verbL r.vb, al, []⟩) = none := by
  cases hd : decR ((toksR r).set 1 ⟨1, verbL r.vb, al, []⟩) with
  | none => rfl
  | some x =>
    obtain ⟨hx, ht⟩ := dec_some hd
    have h1 := toks_at x
    have hlen : 1 < (toksR r).length := by rw [toks_len]; omega
    rw [ht, List.getElem?_set_self hlen] at h1
    injection h1 with h1
    injection h1 with _ h2 h3 _
    have hv := verb_inj (right_parts h).2.2.1 (right_parts hx).2.2.1 h2
    rw [h3, attrs_len hv] at hl
    exact absurd rfl hl
theorem verb_pub {n : Nat} (h : 1 ≤ n ∧ n ≤ 15) : verbL n ≠ pubsubW := by
  rcases vb_cases h with rfl | rfl | rfl | rfl | rfl | rfl | rfl | rfl | rfl | rfl | rfl | rfl | rfl | rfl | rfl <;> decide
/-- without its first token -/
theorem dec_tail {r : Rq} (h : rightR r = true) : decR ((toksR r).drop 1) = none := by
  cases hd : decR ((toksR r).drop 1) with
  | none => rfl
  | some x =>
    obtain ⟨hx, ht⟩ := dec_some hd
    have h0 : (toksR x)[0]? = some ⟨1, pubsubW, [], []⟩ := rfl
    have h1 := toks_at r
    rw [ht, List.getElem?_drop, h1] at h0
    injection h0 with h0
    injection h0 with _ h2 _ _
    exact absurd h2 (verb_pub (right_parts h).2.2.1)
end Go.Proofs.YtmapinediglimaaDoor
/-
  What the attributes say, one by one. No program, no condition.
-/
namespace Go.Proofs.YtmapinediglimaaDoor
set_option linter.unusedVariables false
set_option linter.unusedSimpArgs false
open Go.RowKit Go.MapKept
theorem readA_step {r : Rq} {al : Ats} {j : Nat} (h : j < al.length) : readA r (al.take (j + 1)) = setR (readA r (al.take j)) (al[j]'h) := by
  unfold readA
  rw [List.take_add_one, List.getElem?_eq_getElem h, List.foldl_append]
  rfl
theorem set_none (r : Rq) (k v : List UInt8) (h1 : k ≠ nodeW) (h2 : k ≠ itemW) (h3 : k ≠ jidW) (h4 : k ≠ parentW) (h5 : k ≠ roleW) (h6 : k ≠ accessW) (h7 : k ≠ typeW) (h8 : k ≠ maxW) (h9 : k ≠ depthW) : setR r (k, v) = r := by
  simp only [setR, if_neg h1, if_neg h2, if_neg h3, if_neg h4, if_neg h5, if_neg h6, if_neg h7, if_neg h8, if_neg h9]
theorem readR_at {l : List Tk} (h : 1 < l.length) : readR l = { readA (zeroR (verbN (l[1]'h).n)) (l[1]'h).as with tx := if l.length = 5 then (l[2]?.map Tk.t).getD [] else [] } := by
  unfold readR
  rw [List.getElem?_eq_getElem h]
  rfl
theorem set_tx (r : Rq) (p : List UInt8 × List UInt8) : (setR r p).tx = r.tx := by
  unfold setR
  repeat' split
  all_goals rfl
theorem readA_tx' : ∀ (al : Ats) (r : Rq), (readA r al).tx = r.tx
  | [], _ => rfl
  | p :: al, r => by
    show (readA (setR r p) al).tx = r.tx
    rw [readA_tx' al, set_tx]
theorem readA_tx (r : Rq) (al : Ats) : (readA r al).tx = r.tx := readA_tx' al r
end Go.Proofs.YtmapinediglimaaDoor
/-
  A request's payload is one element. No program, no condition.
-/
namespace Go.Proofs.YtmapinediglimaaDoor
set_option linter.unusedVariables false
set_option linter.unusedSimpArgs false
open Go.RowKit Go.MapKept
def asc (c : UInt8) : Bool := decide (32 ≤ c.toNat ∧ c.toNat < 127)
theorem charsF_asc {s : List UInt8} (h : s.all asc = true) : ∀ n pos, charsF s n pos = true
  | 0, _ => rfl
  | n + 1, pos => by
    unfold charsF
    by_cases hp : pos < s.length
    · rw [if_pos hp]
      have hc := List.all_eq_true.1 h _ (List.getElem_mem hp)
      have hz : pos < (ByteArray.mk s.toArray).size := hp
      have hg := mk_get s pos hz
      have ha : 32 ≤ (s[pos]'hp).toNat ∧ (s[pos]'hp).toNat < 127 := by simpa [asc] using hc
      rw [decode_ascii _ pos hz (by rw [hg]; omega), hg]
      rw [charsF_asc h n]
      have : okC s pos (s[pos]'hp).toNat = true := okC_true (fun e => by omega) (by omega)
      rw [this]; rfl
    · rw [if_neg hp]
theorem fits_asc {s : List UInt8} (h : s.all asc = true) (hl : s.length ≤ 512) : fitsP s = true := by
  unfold fitsP charsP
  rw [charsF_asc h]
  simp [hl]
theorem node_fits {s : List UInt8} (h : nodeP s = true) : fitsP s = true := by
  unfold nodeP at h
  simp only [Bool.and_eq_true, decide_eq_true_eq] at h
  refine fits_asc (List.all_eq_true.2 fun c hc => ?_) (by omega)
  have := List.all_eq_true.1 h.2 c hc
  simp [okN, okCh] at this
  simp [asc]
  omega
theorem itoa_fits (n : Int) (h0 : 0 ≤ n) (h1 : n ≤ 255) : fitsP (Lib.itoa n) = true := by
  have key : ∀ k : Nat, k < 256 → (Lib.itoa k).all asc = true ∧ (Lib.itoa k).length ≤ 512 := by decide +kernel
  obtain ⟨k, rfl⟩ : ∃ k : Nat, n = k := ⟨n.toNat, by omega⟩
  exact fits_asc (key k (by omega)).1 (key k (by omega)).2
theorem letters_asc {s : List UInt8} (h : lettersL s = true) : s.all asc = true := by
  unfold lettersL at h
  refine List.all_eq_true.2 fun c hc => ?_
  have := List.all_eq_true.1 h c hc
  simp [letterN] at this
  simp [asc]
  omega
theorem join_asc {l d r : List UInt8} (h : rightJ l d r = true) : (joinL l d r).all asc = true ∧ (joinL l d r).length ≤ 64 := by
  obtain ⟨h1, -, h3, h4, h5, -⟩ := rightJ_parts h
  refine ⟨?_, h5⟩
  have a1 := letters_asc h1
  have a3 := letters_asc h3
  have a4 := letters_asc h4
  have e1 : asc 64 = true := by decide
  have e2 : asc 47 = true := by decide
  unfold joinL
  split <;> split <;> simp [List.all_append, a1, a3, a4, e1, e2]
theorem addr_fits {s : List UInt8} (h : addrP s = true) : fitsP s = true := by
  unfold addrP at h
  cases hp : parseL s with
  | none => rw [hp] at h; cases h
  | some x =>
    obtain ⟨l, d, r⟩ := x
    obtain ⟨hr, hj⟩ := join_parse hp
    have := join_asc hr
    rw [hj] at this
    exact fits_asc this.1 (by omega)
theorem attrs_right {r : Rq} (h : rightR r = true) : attrsP [] (attrsR r) = true := by
  obtain ⟨hn, ha, hv, -⟩ := right_parts h
  have hnd : fitsP r.nd = true := by
    unfold nodeR at hn
    simp only [Bool.or_eq_true, Bool.and_eq_true] at hn
    rcases hn with hn | hn
    · exact node_fits hn
    · have : r.nd = [] := by simpa using hn.1
      rw [this]; decide
  unfold argsR at ha
  unfold attrsR moreA
  obtain ⟨vb, nd, it, jd, ro, ac, mx, dp, pa, co, tx⟩ := r
  simp only at hv ha hnd ⊢
  have n1 : nameP nodeW = true ∧ nameP itemW = true ∧ nameP jidW = true ∧ nameP parentW = true ∧ nameP roleW = true ∧ nameP accessW = true ∧ nameP typeW = true ∧ nameP maxW = true ∧ nameP depthW = true := by decide +kernel
  obtain ⟨n1, n2, n3, n4, n5, n6, n7, n8, n9⟩ := n1
  have d1 : (itemW == nodeW) = false ∧ (jidW == nodeW) = false ∧ (parentW == nodeW) = false ∧ (roleW == nodeW) = false ∧ (accessW == nodeW) = false ∧ (typeW == nodeW) = false ∧ (maxW == nodeW) = false ∧ (depthW == nodeW) = false ∧ (roleW == jidW) = false ∧ (maxW == accessW) = false := by decide
  obtain ⟨d1, d2, d3, d4, d5, d6, d7, d8, d9, d10⟩ := d1
  have hro : ∀ n, 1 ≤ n → n ≤ 5 → fitsP (roleL n) = true := fun n q1 q2 => by obtain rfl | rfl | rfl | rfl | rfl : n = 1 ∨ n = 2 ∨ n = 3 ∨ n = 4 ∨ n = 5 := (by omega); all_goals decide +kernel
  have hac : ∀ n, n ≤ 2 → fitsP (accL n) = true := fun n q2 => by obtain rfl | rfl | rfl : n = 0 ∨ n = 1 ∨ n = 2 := (by omega); all_goals decide +kernel
  have hco : fitsP (if co then collectionW else leafW) = true := by cases co <;> decide +kernel
  rcases vb_cases hv with rfl | rfl | rfl | rfl | rfl | rfl | rfl | rfl | rfl | rfl | rfl | rfl | rfl | rfl | rfl
  all_goals
    simp only [reduceIte, Nat.reduceEqDiff, Bool.and_eq_true, decide_eq_true_eq] at ha ⊢
    simp only [attrsP, List.contains_nil, List.nil_append, List.contains_cons, List.cons_append, n1, n2, n3, n4, n5, n6, n7, n8, n9, d1, d2, d3, d4, d5, d6, d7, d8, d9, d10, hnd, hco, Bool.not_false, Bool.true_and, Bool.and_true, Bool.or_false, Bool.false_or, List.length_nil, List.length_cons]
    first
      | rfl
      | (rw [hac _ ha.1.1, itoa_fits _ ha.1.2 (by omega)]; rfl)
      | (rw [itoa_fits _ ha.1 ha.2]; rfl)
      | (rw [addr_fits ha.2, hro _ ha.1.1 ha.1.2]; rfl)
      | (rw [addr_fits ha]; rfl)
      | (rw [node_fits ha.2]; rfl)
      | (rw [node_fits ha]; rfl)
theorem whole2 {n1 n2 s : List UInt8} {al : Ats} (h1 : nameP n1 = true) (h2 : nameP n2 = true) (ha : attrsP [] al = true) (hs : s = [] ∨ fitsP s = true) : wholeL (elemL n1 [] (elemL n2 al (insideR s))) = true := by
  have b1 : rightT ⟨1, n1, [], []⟩ = true := by simp [rightT, h1, attrsP]
  have b2 : rightT ⟨1, n2, al, []⟩ = true := by simp [rightT, h2, ha]
  have e1 : rightT ⟨2, n1, [], []⟩ = true := by simp [rightT, h1]
  have e2 : rightT ⟨2, n2, [], []⟩ = true := by simp [rightT, h2]
  by_cases h0 : s = []
  · have hT : elemL n1 [] (elemL n2 al (insideR s)) = [⟨1, n1, [], []⟩, ⟨1, n2, al, []⟩, ⟨2, n2, [], []⟩, ⟨2, n1, [], []⟩] := by simp [elemL, insideR, h0]
    rw [hT]
    have o1 : opsTo [⟨1, n1, [], []⟩, ⟨1, n2, al, []⟩, ⟨2, n2, [], []⟩, ⟨2, n1, [], []⟩] 1 = some [n1] := by simp [opsTo, stepT, b1]
    have o2 : opsTo [⟨1, n1, [], []⟩, ⟨1, n2, al, []⟩, ⟨2, n2, [], []⟩, ⟨2, n1, [], []⟩] 2 = some [n1, n2] := by rw [opsTo, o1]; simp [stepT, b2]
    have o3 : opsTo [⟨1, n1, [], []⟩, ⟨1, n2, al, []⟩, ⟨2, n2, [], []⟩, ⟨2, n1, [], []⟩] 3 = some [n1] := by rw [opsTo, o2]; simp [stepT, e2]
    have o4 : opsTo [⟨1, n1, [], []⟩, ⟨1, n2, al, []⟩, ⟨2, n2, [], []⟩, ⟨2, n1, [], []⟩] 4 = some [] := by rw [opsTo, o3]; simp [stepT, e1]
    unfold wholeL rightL
    simp only [List.length_cons, List.length_nil, Nat.zero_add, Nat.reduceAdd, o4, Bool.and_eq_true, decide_eq_true_eq]
    refine ⟨⟨⟨by omega, rfl⟩, rfl⟩, fun j hj => ?_⟩
    obtain rfl | rfl | rfl : j = 0 ∨ j = 1 ∨ j = 2 := by omega
    · rw [o1]; simp
    · rw [o2]; simp
    · rw [o3]; simp
  · have hf := hs.resolve_left h0
    have c1 : rightT ⟨3, [], [], s⟩ = true := by simp [rightT, hf, h0]
    have hT : elemL n1 [] (elemL n2 al (insideR s)) = [⟨1, n1, [], []⟩, ⟨1, n2, al, []⟩, ⟨3, [], [], s⟩, ⟨2, n2, [], []⟩, ⟨2, n1, [], []⟩] := by simp [elemL, insideR, h0]
    rw [hT]
    have o1 : opsTo [⟨1, n1, [], []⟩, ⟨1, n2, al, []⟩, ⟨3, [], [], s⟩, ⟨2, n2, [], []⟩, ⟨2, n1, [], []⟩] 1 = some [n1] := by simp [opsTo, stepT, b1]
    have o2 : opsTo [⟨1, n1, [], []⟩, ⟨1, n2, al, []⟩, ⟨3, [], [], s⟩, ⟨2, n2, [], []⟩, ⟨2, n1, [], []⟩] 2 = some [n1, n2] := by rw [opsTo, o1]; simp [stepT, b2]
    have o3 : opsTo [⟨1, n1, [], []⟩, ⟨1, n2, al, []⟩, ⟨3, [], [], s⟩, ⟨2, n2, [], []⟩, ⟨2, n1, [], []⟩] 3 = some [n1, n2] := by rw [opsTo, o2]; simp [stepT, c1, prevK]
    have o4 : opsTo [⟨1, n1, [], []⟩, ⟨1, n2, al, []⟩, ⟨3, [], [], s⟩, ⟨2, n2, [], []⟩, ⟨2, n1, [], []⟩] 4 = some [n1] := by rw [opsTo, o3]; simp [stepT, e2]
    have o5 : opsTo [⟨1, n1, [], []⟩, ⟨1, n2, al, []⟩, ⟨3, [], [], s⟩, ⟨2, n2, [], []⟩, ⟨2, n1, [], []⟩] 5 = some [] := by rw [opsTo, o4]; simp [stepT, e1]
    unfold wholeL rightL
    simp only [List.length_cons, List.length_nil, Nat.zero_add, Nat.reduceAdd, o5, Bool.and_eq_true, decide_eq_true_eq]
    refine ⟨⟨⟨by omega, rfl⟩, rfl⟩, fun j hj => ?_⟩
    obtain rfl | rfl | rfl | rfl : j = 0 ∨ j = 1 ∨ j = 2 ∨ j = 3 := by omega
    · rw [o1]; simp
    · rw [o2]; simp
    · rw [o3]; simp
    · rw [o4]; simp
theorem verb_name {n : Nat} (h : 1 ≤ n ∧ n ≤ 15) : nameP (verbL n) = true := by
  rcases vb_cases h with rfl | rfl | rfl | rfl | rfl | rfl | rfl | rfl | rfl | rfl | rfl | rfl | rfl | rfl | rfl <;> decide +kernel
theorem text_right {r : Rq} (h : rightR r = true) : r.tx = [] ∨ fitsP r.tx = true := by
  obtain ⟨-, ha, hv, hz⟩ := right_parts h
  by_cases h9 : r.vb = 9
  · right
    unfold argsR at ha
    rw [h9] at ha
    simp only [reduceIte, Nat.reduceEqDiff, Bool.and_eq_true] at ha
    exact ha.1
  · left
    unfold restR zeroR at hz
    have hz2 := congrArg Rq.tx hz
    revert hz2
    repeat' split
    all_goals intro hz2
    all_goals first | exact hz2 | (exfalso; omega)
theorem whole_toks {r : Rq} (h : rightR r = true) : wholeL (toksR r) = true :=
  whole2 (by decide +kernel) (verb_name (right_parts h).2.2.1) (attrs_right h) (text_right h)
end Go.Proofs.YtmapinediglimaaDoor
