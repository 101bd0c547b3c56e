/-
  Requests in plain words: what is right, tokens, what tokens say; the laws of them. No program, no condition.
-/
import Derived.Test.YtmapinediglimaaDoorWrapP
import Derived.Test.YtmapinediglimaaDoorWrSame2
import Derived.Test.YtmapinediglimaaDoorJidPure
import Derived.Test.YtmapinediglimaaDoorNdN
import Derived.Lib.ItoaNum
import Derived.Lib.AtoiAll
namespace Go.Proofs.YtmapinediglimaaDoor
set_option linter.unusedVariables false
set_option linter.unusedSimpArgs false
open Go.RowKit Go.MapKept
/-- a request -/
structure Rq where
  vb : Nat
  nd : List UInt8
  it : List UInt8
  jd : List UInt8
  ro : Nat
  ac : Nat
  mx : Int
  dp : Int
  pa : List UInt8
  co : Bool
  tx : List UInt8
def rqV (r : Rq) : Value := .agg #[.int .u8 r.vb, .string ⟨r.nd.toArray⟩, .string ⟨r.it.toArray⟩, .string ⟨r.jd.toArray⟩, .int .u8 r.ro, .int .u8 r.ac, .int .i64 r.mx, .int .i64 r.dp, .string ⟨r.pa.toArray⟩, .bool r.co, .string ⟨r.tx.toArray⟩]
def zeroR (v : Nat) : Rq := ⟨v, [], [], [], 0, 0, 0, 0, [], false, []⟩
def eqR (a b : Rq) : Bool := decide (a.vb = b.vb) && decide (a.nd = b.nd) && decide (a.it = b.it) && decide (a.jd = b.jd) && decide (a.ro = b.ro) && decide (a.ac = b.ac) && decide (a.mx = b.mx) && decide (a.dp = b.dp) && decide (a.pa = b.pa) && decide (a.co = b.co) && decide (a.tx = b.tx)
theorem eqR_iff {a b : Rq} : eqR a b = true ↔ a = b := by
  constructor
  · intro h
    unfold eqR at h
    simp only [Bool.and_eq_true, decide_eq_true_eq] at h
    obtain ⟨⟨⟨⟨⟨⟨⟨⟨⟨⟨h1, h2⟩, h3⟩, h4⟩, h5⟩, h6⟩, h7⟩, h8⟩, h9⟩, h10⟩, h11⟩ := h
    cases a; cases b
    simp only at *
    subst h1 h2 h3 h4 h5 h6 h7 h8 h9 h10 h11
    rfl
  · rintro rfl
    simp [eqR]
def verbL (v : Nat) : List UInt8 :=
  if v = 1 then [99, 114, 101, 97, 116, 101] else
  if v = 2 then [114, 101, 109, 111, 118, 101] else
  if v = 3 then [99, 111, 110, 102, 105, 103, 117, 114, 101] else
  if v = 4 then [115, 117, 98, 115, 99, 114, 105, 98, 101] else
  if v = 5 then [117, 110, 115, 117, 98, 115, 99, 114, 105, 98, 101] else
  if v = 6 then [97, 112, 112, 114, 111, 118, 101] else
  if v = 7 then [100, 101, 110, 121] else
  if v = 8 then [97, 102, 102, 105, 108, 105, 97, 116, 101] else
  if v = 9 then [112, 117, 98, 108, 105, 115, 104] else
  if v = 10 then [114, 101, 116, 114, 97, 99, 116] else
  if v = 11 then [112, 117, 114, 103, 101] else
  if v = 12 then [105, 116, 101, 109, 115] else
  if v = 13 then [97, 115, 115, 111, 99, 105, 97, 116, 101] else
  if v = 14 then [100, 105, 115, 115, 111, 99, 105, 97, 116, 101] else
  if v = 15 then [110, 111, 100, 101, 115] else
  []
def roleL (v : Nat) : List UInt8 :=
  if v = 1 then [111, 117, 116, 99, 97, 115, 116] else
  if v = 2 then [110, 111, 110, 101] else
  if v = 3 then [109, 101, 109, 98, 101, 114] else
  if v = 4 then [112, 117, 98, 108, 105, 115, 104, 101, 114] else
  if v = 5 then [111, 119, 110, 101, 114] else
  []
def accL (v : Nat) : List UInt8 :=
  if v = 0 then [111, 112, 101, 110] else
  if v = 1 then [97, 117, 116, 104, 111, 114, 105, 122, 101] else
  if v = 2 then [119, 104, 105, 116, 101, 108, 105, 115, 116] else
  []
def nodeW : List UInt8 := [110, 111, 100, 101]
def itemW : List UInt8 := [105, 116, 101, 109]
def jidW : List UInt8 := [106, 105, 100]
def parentW : List UInt8 := [112, 97, 114, 101, 110, 116]
def roleW : List UInt8 := [114, 111, 108, 101]
def accessW : List UInt8 := [97, 99, 99, 101, 115, 115]
def typeW : List UInt8 := [116, 121, 112, 101]
def maxW : List UInt8 := [109, 97, 120]
def depthW : List UInt8 := [100, 101, 112, 116, 104]
def pubsubW : List UInt8 := [112, 117, 98, 115, 117, 98]
def leafW : List UInt8 := [108, 101, 97, 102]
def collectionW : List UInt8 := [99, 111, 108, 108, 101, 99, 116, 105, 111, 110]
def verbN (s : List UInt8) : Nat :=
  if s = [99, 114, 101, 97, 116, 101] then 1 else
  if s = [114, 101, 109, 111, 118, 101] then 2 else
  if s = [99, 111, 110, 102, 105, 103, 117, 114, 101] then 3 else
  if s = [115, 117, 98, 115, 99, 114, 105, 98, 101] then 4 else
  if s = [117, 110, 115, 117, 98, 115, 99, 114, 105, 98, 101] then 5 else
  if s = [97, 112, 112, 114, 111, 118, 101] then 6 else
  if s = [100, 101, 110, 121] then 7 else
  if s = [97, 102, 102, 105, 108, 105, 97, 116, 101] then 8 else
  if s = [112, 117, 98, 108, 105, 115, 104] then 9 else
  if s = [114, 101, 116, 114, 97, 99, 116] then 10 else
  if s = [112, 117, 114, 103, 101] then 11 else
  if s = [105, 116, 101, 109, 115] then 12 else
  if s = [97, 115, 115, 111, 99, 105, 97, 116, 101] then 13 else
  if s = [100, 105, 115, 115, 111, 99, 105, 97, 116, 101] then 14 else
  if s = [110, 111, 100, 101, 115] then 15 else
  0
def roleN (s : List UInt8) : Nat :=
  if s = [111, 117, 116, 99, 97, 115, 116] then 1 else
  if s = [110, 111, 110, 101] then 2 else
  if s = [109, 101, 109, 98, 101, 114] then 3 else
  if s = [112, 117, 98, 108, 105, 115, 104, 101, 114] then 4 else
  if s = [111, 119, 110, 101, 114] then 5 else
  0
def accN (s : List UInt8) : Nat :=
  if s = [97, 117, 116, 104, 111, 114, 105, 122, 101] then 1 else
  if s = [119, 104, 105, 116, 101, 108, 105, 115, 116] then 2 else
  0
/-- is it somebody's address? -/
def addrP (s : List UInt8) : Bool := match parseL s with
  | some (l, d, r) => decide (lowL l = l) && decide (lowL d = d) && decide (r = [])
  | none => false
/-- are the things that its verb names such as may be? -/
def argsR (r : Rq) : Bool :=
  if r.vb = 3 then decide (r.ac ≤ 2) && decide (0 ≤ r.mx) && decide (r.mx ≤ 8) else
  if r.vb = 4 then decide (0 ≤ r.dp) && decide (r.dp ≤ 255) else
  if r.vb = 6 then addrP r.jd else
  if r.vb = 7 then addrP r.jd else
  if r.vb = 8 then decide (1 ≤ r.ro) && decide (r.ro ≤ 5) && addrP r.jd else
  if r.vb = 9 then fitsP r.tx && nodeP r.it else
  if r.vb = 10 then nodeP r.it else
  if r.vb = 13 then nodeP r.pa else true
/-- without its node, and what its verb names -/
def restR (r : Rq) : Rq :=
  if r.vb = 1 then { r with nd := [], co := false } else
  if r.vb = 3 then { r with nd := [], ac := 0, mx := 0 } else
  if r.vb = 4 then { r with nd := [], dp := 0 } else
  if r.vb = 6 then { r with nd := [], jd := [] } else
  if r.vb = 7 then { r with nd := [], jd := [] } else
  if r.vb = 8 then { r with nd := [], ro := 0, jd := [] } else
  if r.vb = 9 then { r with nd := [], tx := [], it := [] } else
  if r.vb = 10 then { r with nd := [], it := [] } else
  if r.vb = 13 then { r with nd := [], pa := [] } else { r with nd := [] }
def nodeR (r : Rq) : Bool := nodeP r.nd || (r.nd == [] && r.vb == 15)
def okR (r : Rq) : Bool := nodeR r && argsR r
def rightR (r : Rq) : Bool := okR r && !(verbL r.vb == []) && eqR (restR r) (zeroR r.vb)
/-- the attributes behind the first -/
def moreA (r : Rq) : Ats :=
  if r.vb = 1 then [(typeW, if r.co then collectionW else leafW)] else
  if r.vb = 3 then [(accessW, accL r.ac), (maxW, Lib.itoa r.mx)] else
  if r.vb = 4 then [(depthW, Lib.itoa r.dp)] else
  if r.vb = 6 then [(jidW, r.jd)] else
  if r.vb = 7 then [(jidW, r.jd)] else
  if r.vb = 8 then [(jidW, r.jd), (roleW, roleL r.ro)] else
  if r.vb = 9 then [(itemW, r.it)] else
  if r.vb = 10 then [(itemW, r.it)] else
  if r.vb = 13 then [(parentW, r.pa)] else []
def attrsR (r : Rq) : Ats := (nodeW, r.nd) :: moreA r
def insideR (s : List UInt8) : List Tk := if s = [] then [] else [⟨3, [], [], s⟩]
def toksR (r : Rq) : List Tk := elemL pubsubW [] (elemL (verbL r.vb) (attrsR r) (insideR r.tx))
/-- a text of digits, as the program reads it -/
def numR (s : List UInt8) : Int := match Lib.atoiAll s with
  | .ok v => if v < 0 then -1 else if Lib.itoa v = s then v else -1
  | _ => -1
def setR (r : Rq) (p : List UInt8 × List UInt8) : Rq :=
  if p.1 = nodeW then { r with nd := p.2 } else
  if p.1 = itemW then { r with it := p.2 } else
  if p.1 = jidW then { r with jd := p.2 } else
  if p.1 = parentW then { r with pa := p.2 } else
  if p.1 = roleW then { r with ro := roleN p.2 } else
  if p.1 = accessW then { r with ac := accN p.2 } else
  if p.1 = typeW then { r with co := decide (p.2 = collectionW) } else
  if p.1 = maxW then { r with mx := numR p.2 } else
  if p.1 = depthW then { r with dp := numR p.2 } else r
def readA (r : Rq) (al : Ats) : Rq := al.foldl setR r
def readR (l : List Tk) : Rq :=
  { readA (zeroR (verbN ((l[1]?.map Tk.n).getD []))) ((l[1]?.map Tk.as).getD []) with tx := if l.length = 5 then (l[2]?.map Tk.t).getD [] else [] }
/-- what tokens say -/
def decR (l : List Tk) : Option Rq :=
  if l.length = 4 ∨ l.length = 5 then (if rightR (readR l) && sameL (toksR (readR l)) l then some (readR l) else none) else none
theorem same_iff {x y : Tk} : x.same y = true ↔ x = y := by
  constructor
  · intro h
    unfold Tk.same at h
    simp only [Bool.and_eq_true, decide_eq_true_eq] at h
    obtain ⟨⟨⟨h1, h2⟩, h3⟩, h4⟩ := h
    cases x; cases y
    simp only at *
    subst h1 h2 h3 h4
    rfl
  · rintro rfl
    simp [Tk.same]
theorem sameL_iff : ∀ {a b : List Tk}, sameL a b = true ↔ a = b
  | [], [] => by simp [sameL]
  | x :: xs, y :: ys => by
    simp only [sameL, Bool.and_eq_true, same_iff, sameL_iff (a := xs) (b := ys), List.cons.injEq]
  | [], y :: ys => by simp [sameL]
  | x :: xs, [] => by simp [sameL]
theorem numR_itoa : ∀ n : Nat, n < 256 → numR (Lib.itoa n) = n := by decide +kernel
theorem right_parts {r : Rq} (h : rightR r = true) : nodeR r = true ∧ argsR r = true ∧ (1 ≤ r.vb ∧ r.vb ≤ 15) ∧ restR r = zeroR r.vb := by
  unfold rightR okR at h
  simp only [Bool.and_eq_true] at h
  obtain ⟨⟨⟨h1, h2⟩, h3⟩, h4⟩ := h
  refine ⟨h1, h2, ?_, eqR_iff.1 h4⟩
  rcases Nat.lt_or_ge 15 r.vb with h5 | h5
  · have : verbL r.vb = [] := by unfold verbL; iterate 15 (rw [if_neg (by omega)])
    rw [this] at h3; simp at h3
  · rcases Nat.lt_or_ge 0 r.vb with h6 | h6
    · exact ⟨h6, h5⟩
    · have h0 : r.vb = 0 := by omega
      rw [h0] at h3; simp [verbL] at h3
theorem vb_cases {n : Nat} (h : 1 ≤ n ∧ n ≤ 15) : n = 1 ∨ n = 2 ∨ n = 3 ∨ n = 4 ∨ n = 5 ∨ n = 6 ∨ n = 7 ∨ n = 8 ∨ n = 9 ∨ n = 10 ∨ n = 11 ∨ n = 12 ∨ n = 13 ∨ n = 14 ∨ n = 15 := by omega
theorem verb_back {n : Nat} (h : 1 ≤ n ∧ n ≤ 15) : verbN (verbL n) = n := by
  rcases vb_cases h with rfl | rfl | rfl | rfl | rfl | rfl | rfl | rfl | rfl | rfl | rfl | rfl | rfl | rfl | rfl <;> decide
theorem numR_int {n : Int} (h0 : 0 ≤ n) (h1 : n ≤ 255) : numR (Lib.itoa n) = n := by
  obtain ⟨k, rfl⟩ : ∃ k : Nat, n = k := ⟨n.toNat, by omega⟩
  exact numR_itoa k (by omega)
theorem set_node (r : Rq) (v : List UInt8) : setR r (nodeW, v) = { r with nd := v } := by
  simp only [setR, if_false, if_true]
theorem set_item (r : Rq) (v : List UInt8) : setR r (itemW, v) = { r with it := v } := by
  simp only [setR, show (itemW = nodeW) = False by decide, if_false, if_true]
theorem set_jid (r : Rq) (v : List UInt8) : setR r (jidW, v) = { r with jd := v } := by
  simp only [setR, show (jidW = nodeW) = False by decide, show (jidW = itemW) = False by decide, if_false, if_true]
theorem set_parent (r : Rq) (v : List UInt8) : setR r (parentW, v) = { r with pa := v } := by
  simp only [setR, show (parentW = nodeW) = False by decide, show (parentW = itemW) = False by decide, show (parentW = jidW) = False by decide, if_false, if_true]
theorem set_role (r : Rq) (v : List UInt8) : setR r (roleW, v) = { r with ro := roleN v } := by
  simp only [setR, show (roleW = nodeW) = False by decide, show (roleW = itemW) = False by decide, show (roleW = jidW) = False by decide, show (roleW = parentW) = False by decide, if_false, if_true]
theorem set_access (r : Rq) (v : List UInt8) : setR r (accessW, v) = { r with ac := accN v } := by
  simp only [setR, show (accessW = nodeW) = False by decide, show (accessW = itemW) = False by decide, show (accessW = jidW) = False by decide, show (accessW = parentW) = False by decide, show (accessW = roleW) = False by decide, if_false, if_true]
theorem set_type (r : Rq) (v : List UInt8) : setR r (typeW, v) = { r with co := decide (v = collectionW) } := by
  simp only [setR, show (typeW = nodeW) = False by decide, show (typeW = itemW) = False by decide, show (typeW = jidW) = False by decide, show (typeW = parentW) = False by decide, show (typeW = roleW) = False by decide, show (typeW = accessW) = False by decide, if_false, if_true]
theorem set_max (r : Rq) (v : List UInt8) : setR r (maxW, v) = { r with mx := numR v } := by
  simp only [setR, show (maxW = nodeW) = False by decide, show (maxW = itemW) = False by decide, show (maxW = jidW) = False by decide, show (maxW = parentW) = False by decide, show (maxW = roleW) = False by decide, show (maxW = accessW) = False by decide, show (maxW = typeW) = False by decide, if_false, if_true]
theorem set_depth (r : Rq) (v : List UInt8) : setR r (depthW, v) = { r with dp := numR v } := by
  simp only [setR, show (depthW = nodeW) = False by decide, show (depthW = itemW) = False by decide, show (depthW = jidW) = False by decide, show (depthW = parentW) = False by decide, show (depthW = roleW) = False by decide, show (depthW = accessW) = False by decide, show (depthW = typeW) = False by decide, show (depthW = maxW) = False by decide, if_false, if_true]
theorem role_back {n : Nat} (h1 : 1 ≤ n) (h5 : n ≤ 5) : roleN (roleL n) = n := by
  obtain rfl | rfl | rfl | rfl | rfl : n = 1 ∨ n = 2 ∨ n = 3 ∨ n = 4 ∨ n = 5 := by omega
  all_goals decide
theorem acc_back {n : Nat} (h : n ≤ 2) : accN (accL n) = n := by
  obtain rfl | rfl | rfl : n = 0 ∨ n = 1 ∨ n = 2 := by omega
  all_goals decide
theorem co_back (b : Bool) : decide ((if b then collectionW else leafW) = collectionW) = b := by cases b <;> decide
theorem read_toks {r : Rq} (h : rightR r = true) : readR (toksR r) = r := by
  obtain ⟨-, ha, hv, hz⟩ := right_parts h
  have hb := verb_back hv
  have h1 : (toksR r)[1]? = some ⟨1, verbL r.vb, attrsR r, []⟩ := rfl
  have hlen : (toksR r).length = 4 + (insideR r.tx).length := by simp [toksR, elemL]; omega
  have htx : (if (toksR r).length = 5 then ((toksR r)[2]?.map Tk.t).getD [] else []) = r.tx := by
    by_cases e : r.tx = []
    · have : insideR r.tx = [] := by simp [insideR, e]
      rw [if_neg (by rw [hlen, this]; simp), e]
    · have : insideR r.tx = [⟨3, [], [], r.tx⟩] := by simp [insideR, e]
      rw [if_pos (by rw [hlen, this]; simp)]
      have : (toksR r)[2]? = some ⟨3, [], [], r.tx⟩ := by
        unfold toksR elemL
        rw [this]
        rfl
      rw [this]; rfl
  unfold readR
  rw [htx, h1]
  show { readA (zeroR (verbN (verbL r.vb))) (attrsR r) with tx := r.tx } = r
  rw [hb]
  obtain ⟨vb, nd, it, jd, ro, ac, mx, dp, pa, co, tx⟩ := r
  simp only at hv
  unfold restR zeroR at hz
  unfold argsR at ha
  unfold attrsR moreA readA zeroR
  rcases vb_cases hv with rfl | rfl | rfl | rfl | rfl | rfl | rfl | rfl | rfl | rfl | rfl | rfl | rfl | rfl | rfl
  all_goals
    simp at hz ha
    simp [set_node, set_item, set_jid, set_parent, set_role, set_access, set_type, set_max, set_depth, hz]
    try (first
      | exact fun h => absurd h (by decide)
      | exact co_back _
      | exact ⟨acc_back ha.1.1, numR_int ha.1.2 (by omega)⟩
      | exact numR_int ha.1 ha.2
      | exact role_back ha.1.1 ha.1.2)
end Go.Proofs.YtmapinediglimaaDoor
