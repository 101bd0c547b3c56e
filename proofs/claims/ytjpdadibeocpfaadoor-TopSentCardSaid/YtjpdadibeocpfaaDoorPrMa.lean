/-
  The program's own parser in memory; copies of rows. No condition.
-/
import Derived.Test.YtjpdadibeocpfaaDoorPbC
import Derived.Test.YtjpdadibeocpfaaDoorPrNa
import Derived.Test.YtjpdadibeocpfaaDoorWrEl
import Derived.Test.YtjpdadibeocpfaaDoorWrWalk
import Derived.Test.YtjpdadibeocpfaaDoorInv
import Derived.WalkMore
import Derived.RangeFuncKeeps
namespace Go.Proofs.YtjpdadibeocpfaaDoor
set_option linter.unusedVariables false
set_option linter.unusedSimpArgs false
open Go.RowKit Go.MapKept
variable {K : Nat → Prop}
def aC (c p : List UInt8) : List Value := [.string ⟨c.toArray⟩, .string ⟨p.toArray⟩]
theorem aC_one (c p : List UInt8) : ∀ v ∈ aC c p, v.oneCell' = true := by intro v hv; simp [aC] at hv; rcases hv with rfl | rfl <;> rfl
theorem aC_cells {w : World} {vb : Nat} {c p : List UInt8} (hv : w.heap[vb]? = some (.cells #[.string ⟨c.toArray⟩, .string ⟨p.toArray⟩] 39)) : ∀ j u, (aC c p)[j]? = some u → w.cell? ⟨vb, 0 + j, none⟩ = some u := by
  intro j u hu
  rw [Nat.zero_add, (obj_cells hv).1 j]
  simpa [aC] using hu
theorem atCells_snoc (al : Ats) (p : List UInt8 × List UInt8) : atCells (al ++ [p]) = atCells al ++ aC p.1 p.2 := by simp [atCells, aC]
theorem bare_pb (w : World) (o : Obj) : (w.alloc o).heap[w.heap.size]? = some o := (heap_alloc w o).1
/-- a row is copied behind a fresh, empty one -/
theorem row_copy {P : Program} (W : World) (n0 : Nat) (t e : TypeId) (i : TypeInfo) (z : Value) (size bytes : Nat) (ht : P.underlying t = some (.slice e)) (hi : P.info? e = some i) (hz : i.zero = some z) (hsize : i.size = size) (hby : i.bytes = bytes) (hzs : z.cells.size = size) (hsz : 0 < size)
    (v : Value) (n : Nat) (xs : List Value) (h : W.ownsRow n0 e size v n xs) (hone : ∀ u ∈ xs, u.oneCell' = true) (hmx : n ≤ maxLen) (hb : n * bytes ≤ 140737488355328) :
    ∃ v' w', (Builtin.append_ #[t, t] t #[.slice (some ⟨W.heap.size, 0, none⟩) 0 0, v]).run P (W.alloc (.cells #[] e)) = .ok v' w' ∧ w'.ownsRow W.heap.size e size v' n xs ∧ Below W.heap.size W w' := by
  have hO : (W.alloc (.cells #[] e)).ownsRow W.heap.size e size (.slice (some ⟨W.heap.size, 0, none⟩) 0 0) 0 [] := ⟨by simp, .inr ⟨W.heap.size, 0, #[], rfl, Nat.le_refl _, bare_pb _ _, Nat.le_refl _, by decide, by simp, by simp⟩⟩
  rcases h.2 with ⟨rfl, rfl⟩ | ⟨g, cap, cur, rfl, hbg, hg, hc1, hc2, hc3, hc4⟩
  · have hx : xs = [] := by have := h.1; rw [Nat.zero_mul] at this; exact List.length_eq_zero_iff.1 this
    subst hx
    exact ⟨_, _, nothing_src (P := P) (W.alloc (.cells #[] e)) t t e i ht hi (some ⟨W.heap.size, 0, none⟩) 0 0 0 (Nat.le_refl _), hO, below1 _ _⟩
  · have hgl := (Array.getElem?_eq_some_iff.1 hg).1
    have hnews : ∀ j u, xs[j]? = some u → (W.alloc (.cells #[] e)).cell? ((⟨g, 0, none⟩ : Addr).add j) = some u := fun j u hj => by
      have := World.ownsRow.cells (h.alloc (.cells #[] e)) (g := g) rfl j u hj
      exact this
    obtain ⟨v', w', hrun, hown, hgr, _, _⟩ := run_append_own_at (P := P) (W.alloc (.cells #[] e)) W.heap.size t t e i z size bytes ht hi hz hsize hby hzs hsz _ _ _ hO ⟨g, 0, none⟩ n cap xs h.1 hnews hone (by omega) (by rw [Nat.zero_add]; exact hb) (by simp)
    rw [Nat.zero_add, List.nil_append] at hown
    exact ⟨v', w', hrun, hown, (below1 W _).grown hgr (by simp) (fun k hk => by cases hk; exact Nat.le_refl _)⟩
/-- a row's head is a row -/
theorem owns_head_of {w : World} {base : Nat} {e : TypeId} {size n m : Nat} {a : Option Addr} {c : Nat} {xs : List Value} (h : w.ownsRow base e size (.slice a n c) n xs) (hn : 0 < n) (hm : m ≤ n) : w.ownsRow base e size (.slice a m c) m (xs.take (m * size)) := by
  have hmul : m * size ≤ n * size := Nat.mul_le_mul_right _ hm
  rcases h.2 with ⟨_, h0⟩ | ⟨g, cap, cur, hv, hb, hg, h1, h2, h3, h4⟩
  · omega
  · injection hv with e1 e2 e3
    subst e1 e3
    refine ⟨by rw [List.length_take, h.1]; omega, .inr ⟨g, c, cur, rfl, hb, hg, by omega, h2, h3, ?_⟩⟩
    rw [← h4, List.take_take, Nat.min_eq_left hmul]
theorem nameCells_one (op : List (List UInt8)) : ∀ u ∈ nameCells op, u.oneCell' = true := by
  intro u hu
  obtain ⟨n, -, rfl⟩ := List.mem_map.1 hu
  rfl
theorem byteCells_one (l : List UInt8) : ∀ u ∈ Lib.byteCells l, u.oneCell' = true := by
  intro u hu
  unfold Lib.byteCells at hu
  obtain ⟨n, -, rfl⟩ := List.mem_map.1 hu
  rfl
/-- an append as one step of a region that draws its order -/
theorem step_app_run {P : Program} {ops : Array Oper} {o : Oper} {a : Act} {w : World} {K : Act → World → Prop} {Q : Exit → Act → World → Prop} {E : Prop}
    (hg : o.guard = none) (s x : Operand) (t : TypeId) (hop : o.op = Op.call { callee := Callee.builtin Builtin.append, args := #[s, x], argTypes := #[t, t] })
    (v u v' : Value) (w' : World) (hs : a.eval s = v) (hx : a.eval x = u) (hrun : (Builtin.append_ #[t, t] o.type #[v, u]).run P w = .ok v' w') (hK : K (a.put o.dst v') w') :
    if Region.wanted o (yielded ops a.tmps) = true then Oper.wp P o a w K Q else E := by
  have hw : Region.wanted o (yielded ops a.tmps) = true := by simp [Region.wanted, hg]
  rw [if_pos hw]
  unfold Oper.wp execOp
  simp only [hop, resolve, invoke, builtin, Sem.run_bind, Sem.run_pure, Result.andThen_ok, List.map_toArray, List.map_cons, List.map_nil, hs, hx, hrun]
  exact hK
abbrev PrObj (wv : Value) (q : UInt8) (ov : Value) (rt an : Bool) : Obj := .cells #[wv, .int .u8 (q.toNat : Int), ov, .bool rt, .bool an, .int .i64 0] 53
/-- the parser at block B -/
def PsAt (K : Nat → Prop) (n0 B : Nat) (w : World) (S : Ps) : Prop :=
  B < n0 ∧ ∃ wv ov an, w.heap[B]? = some (PrObj wv S.q ov S.rt an) ∧ w.ownsRow n0 5 1 wv S.w.length (Lib.byteCells S.w) ∧ w.ownsRow n0 9 1 ov S.op.length (nameCells S.op) ∧ ∀ r, wv.ownBlock = some r → ¬ K r
theorem PsAt.keep {n0 B : Nat} {w w' : World} {S : Ps} (h : PsAt K n0 B w S) (hb : ∀ k, k < w.heap.size → w'.heap[k]? = w.heap[k]?) : PsAt K n0 B w' S := by
  obtain ⟨h1, wv, ov, an, h2, h3, h4⟩ := h
  exact ⟨h1, wv, ov, an, (hb B (Array.getElem?_eq_some_iff.1 h2).1).trans h2, owns_keep2 h3 hb, owns_keep2 h4.1 hb, h4.2⟩
theorem PsAt.below {n0 B : Nat} {w w' : World} {S : Ps} (h : PsAt K n0 B w S) (hb : Below w.heap.size w w') : PsAt K n0 B w' S := h.keep fun k hk => hb.block k hk
theorem pr_cells {w : World} {B : Nat} {wv ov : Value} {q : UInt8} {rt an : Bool} (h : w.heap[B]? = some (PrObj wv q ov rt an)) :
    w.cell? ⟨B, 0, none⟩ = some wv ∧ w.cell? ⟨B, 1, none⟩ = some (.int .u8 (q.toNat : Int)) ∧ w.cell? ⟨B, 2, none⟩ = some ov ∧ w.cell? ⟨B, 3, none⟩ = some (.bool rt) ∧ w.cell? ⟨B, 4, none⟩ = some (.bool an) ∧ w.cell? ⟨B, 5, none⟩ = some (.int .i64 0) ∧ (∀ o, w.frozen? ⟨B, o, none⟩ = false) ∧ B < w.heap.size := by
  obtain ⟨h1, h2, h3⟩ := obj_cells h
  exact ⟨h1 0, h1 1, h1 2, h1 3, h1 4, h1 5, h2, h3⟩
theorem grown_below {w w1 w2 : World} {r : Option Nat} (h : w.grownBy w1 r) (hb : Below w1.heap.size w1 w2) : w.grownBy w2 r :=
  ⟨hb.os.trans h.os, hb.tape.trans h.tape, hb.output.trans h.output, Nat.le_trans h.size hb.size, fun k hk hne => (hb.block k (Nat.lt_of_lt_of_le hk h.size)).trans (h.block k hk hne)⟩
theorem grown_set {w W : World} {B k : Nat} (v : Value) (h : w.grownBy W (some B)) : w.grownBy (W.setCell ⟨B, k, none⟩ v) (some B) :=
  ⟨h.os, h.tape, h.output, by rw [World.size_setCell]; exact h.size, fun j hj hne => (Below.heap_setCell _ _ _ _ (fun e => hne (by rw [e]))).trans (h.block j hj hne)⟩
theorem grown_of {w W : World} {B : Nat} (h : Below w.heap.size w W) : w.grownBy W (some B) := ⟨h.os, h.tape, h.output, h.size, fun k hk _ => h.block k hk⟩
theorem grown_trans {w w1 w2 : World} {r : Option Nat} (h : w.grownBy w1 r) (h2 : w1.grownBy w2 r) : w.grownBy w2 r :=
  ⟨h2.os.trans h.os, h2.tape.trans h.tape, h2.output.trans h.output, Nat.le_trans h.size h2.size, fun k hk hne => (h2.block k (Nat.lt_of_lt_of_le hk h.size) hne).trans (h.block k hk hne)⟩
theorem grown_row {w W w5 : World} {B : Nat} {row : Option Nat} (h : w.grownBy W (some B)) (hg : W.grownBy w5 row) (hr : ∀ r, row = some r → w.heap.size ≤ r) : w.grownBy w5 (some B) :=
  ⟨hg.os.trans h.os, hg.tape.trans h.tape, hg.output.trans h.output, Nat.le_trans h.size hg.size, fun k hk hne => (hg.block k (Nat.lt_of_lt_of_le hk h.size) (fun e => by have := hr k e.symm; omega)).trans (h.block k hk hne)⟩
theorem owns_dpb {w : World} {b1 b2 : Nat} {e : TypeId} {size : Nat} {v : Value} {n : Nat} {xs : List Value} (h : w.ownsRow b1 e size v n xs) (hb : b2 ≤ b1) : w.ownsRow b2 e size v n xs := by
  refine ⟨h.1, ?_⟩
  rcases h.2 with h2 | ⟨g, cap, cur, h1, h2, h3⟩
  · exact .inl h2
  · exact .inr ⟨g, cap, cur, h1, by omega, h3⟩
/-- rows above the parser stay where the parser alone changes -/
theorem owns_grown {w w' : World} {n0 B base : Nat} {e : TypeId} {size : Nat} {v : Value} {n : Nat} {xs : List Value} (h : w.ownsRow base e size v n xs) (hb : n0 ≤ base) (hB : B < n0) (hg : w.grownBy w' (some B)) : w'.ownsRow n0 e size v n xs :=
  owns_dpb (owns_keep h fun g h1 h2 => hg.block g h2 (fun e => by cases e; omega)) hb
/-- attributes lie in a row of their own kind -/
def AtT (n : Nat) (w : World) (sv : Value) : Prop := ∀ r, sv.ownBlock = some r → n ≤ r ∧ ∃ cur, w.heap[r]? = some (.cells cur 39)
theorem AtT.mono {n m : Nat} {w : World} {sv : Value} (h : AtT n w sv) (hm : m ≤ n) : AtT m w sv := fun r hr => ⟨Nat.le_trans hm (h r hr).1, (h r hr).2⟩
theorem AtT.lt {n : Nat} {w : World} {sv : Value} (h : AtT n w sv) (r : Nat) (hr : sv.ownBlock = some r) : r < w.heap.size := by
  obtain ⟨-, cur, hc⟩ := h r hr
  exact (Array.getElem?_eq_some_iff.1 hc).1
theorem AtT.keep {n : Nat} {w w' : World} {sv : Value} (h : AtT n w sv) (hb : ∀ b, n ≤ b → b < w.heap.size → w'.heap[b]? = w.heap[b]?) : AtT n w' sv := fun r hr => by
  obtain ⟨h1, cur, hc⟩ := h r hr
  exact ⟨h1, cur, (hb r h1 (h.lt r hr)).trans hc⟩
theorem atT_nil (n : Nat) (w : World) : AtT n w (.slice none 0 0) := fun r hr => by cases hr
theorem atT_own {n k : Nat} {w : World} {sv : Value} {xs : List Value} (h : w.ownsRow n 39 2 sv k xs) : AtT n w sv := fun r hr => by
  rcases h.2 with ⟨rfl, -⟩ | ⟨g, cap, cur, rfl, h1, h2, -⟩
  · cases hr
  · obtain rfl : g = r := by injection hr
    exact ⟨h1, cur, h2⟩
theorem AtT.ne {n b k : Nat} {w : World} {sv v : Value} {e : TypeId} {s : Nat} {xs : List Value} (h : AtT n w sv) (ho : w.ownsRow b e s v k xs) (he : 39 ≠ e) (r : Nat) (hr : sv.ownBlock = some r) : some r ≠ v.ownBlock := by
  intro e1
  obtain ⟨-, cur, hc⟩ := h r hr
  rcases ho.2 with ⟨rfl, -⟩ | ⟨g, cap, cur', rfl, -, hg, -⟩
  · cases e1
  · have e2 : r = g := by injection e1
    subst e2
    rw [hc] at hg
    injection hg with hg
    injection hg with _ h _
    exact he h
/-- tokens in an own row, their attributes in own blocks apart from it -/
def TkO (n : Nat) (w : World) (v : Value) (l : List Tk) : Prop :=
  ∃ ps : List (Tk × Value), ps.map (·.1) = l ∧ w.ownsRow n 35 4 v ps.length (tkCells ps) ∧ ∀ p ∈ ps, AtX (fun b => n ≤ b ∧ some b ≠ v.ownBlock) w p.2 p.1.as ∧ AtT n w p.2
theorem TkO.tks {n : Nat} {w : World} {v : Value} {l : List Tk} (h : TkO n w v l) : TkS w v l := by
  obtain ⟨ps, rfl, h1, h2⟩ := h
  exact owns_tks h1 rfl fun p hp => (h2 p hp).1.at
theorem TkO.mono {n m : Nat} {w : World} {v : Value} {l : List Tk} (h : TkO n w v l) (hm : m ≤ n) : TkO m w v l := by
  obtain ⟨ps, h0, h1, h2⟩ := h
  exact ⟨ps, h0, owns_dpb h1 hm, fun p hp => ⟨(h2 p hp).1.mono fun b hb => ⟨by omega, hb.2⟩, (h2 p hp).2.mono hm⟩⟩
theorem TkO.keep {n : Nat} {w w' : World} {v : Value} {l : List Tk} (h : TkO n w v l) (hs : w.heap.size ≤ w'.heap.size) (hb : ∀ b, n ≤ b → b < w.heap.size → w'.heap[b]? = w.heap[b]?) : TkO n w' v l := by
  obtain ⟨ps, h0, h1, h2⟩ := h
  exact ⟨ps, h0, owns_keep h1 fun g h3 h4 => hb g h3 h4, fun p hp => ⟨AtX.keep (h2 p hp).1 hs fun b h3 h4 => hb b h4.1 h3, (h2 p hp).2.keep hb⟩⟩
theorem tkO_nil (n : Nat) (w : World) : TkO n w (.slice none 0 0) [] := ⟨[], rfl, World.ownsRow_nil _ _ _ _, fun p hp => by cases hp⟩
/-- one token in a fresh block -/
theorem tkF_new {W : World} {n : Nat} {sv : Value} {al : Ats} (k : Int) (nm t : List UInt8) (hn : n ≤ W.heap.size) (hA : AtX (fun b => n ≤ b) W sv al) (hAt : AtT n W sv) :
    TkO n (W.alloc (.cells #[.int .u8 k, .string ⟨nm.toArray⟩, sv, .string ⟨t.toArray⟩] 35)) (.slice (some ⟨W.heap.size, 0, none⟩) 1 1) [⟨k, nm, al, t⟩] := by
  refine ⟨[(⟨k, nm, al, t⟩, sv)], rfl, ⟨rfl, .inr ⟨W.heap.size, 1, _, rfl, hn, bare_pb _ _, Nat.le_refl _, by unfold maxLen; decide, rfl, rfl⟩⟩, fun p hp => ?_⟩
  rw [List.mem_singleton.1 hp]
  refine ⟨?_, hAt.keep fun b _ hb => Below.heap_alloc _ _ _ hb⟩
  obtain ⟨p1, c1, e1, e2, e3, e4⟩ := hA
  refine ⟨p1, c1, e1, e2, e3, fun h0 => ?_⟩
  obtain ⟨b, o, f1, f2, f3, f4⟩ := e4 h0
  refine ⟨b, o, f1, by rw [World.size_alloc]; omega, ⟨f3, fun e => ?_⟩, fun i hi => ?_⟩
  · have : b = W.heap.size := by injection e
    omega
  · exact ⟨((below1 W _).cell (p := ⟨b, o + i * 2, none⟩) f2).trans (f4 i hi).1, ((below1 W _).cell (p := ⟨b, o + i * 2 + 1, none⟩) f2).trans (f4 i hi).2⟩
/-- a row more behind an own one -/
theorem tk_append (W : World) (n m : Nat) (v tv : Value) (l1 l2 : List Tk) (h1 : TkO n W v l1) (h2 : TkO m W tv l2) (hnm : n ≤ m) (hv : ∀ r, v.ownBlock = some r → r < m) (hlen : l1.length + l2.length ≤ 1000) (hn : n ≤ W.heap.size) :
    ∃ v' w', (Builtin.append_ #[25, 25] 25 #[v, tv]).run Tryd.prog W = .ok v' w' ∧ TkO n w' v' (l1 ++ l2) ∧ W.grownBy w' v.ownBlock ∧ (v'.ownBlock = v.ownBlock ∨ v'.ownBlock = some W.heap.size) := by
  obtain ⟨i0, hi, hz0, hz1, hz2⟩ := info_parts infoT
  obtain ⟨ps1, rfl, o1, a1⟩ := h1
  obtain ⟨ps2, rfl, o2, a2⟩ := h2
  simp only [List.length_map] at hlen
  obtain ⟨av, cv, rfl⟩ := owns_val o1
  rcases o2.2 with ⟨rfl, h0⟩ | ⟨g, cap, cur, rfl, hb, hg, k1, k2, k3, k4⟩
  · have hx : ps2 = [] := List.length_eq_zero_iff.1 h0
    subst hx
    refine ⟨_, W, nothing_src (P := Tryd.prog) W 25 25 35 i0 Tryd.underlying25 hi av ps1.length cv 0 (owns_le o1), ?_, ⟨rfl, rfl, rfl, Nat.le_refl _, fun _ _ _ => rfl⟩, .inl rfl⟩
    rw [List.map_nil, List.append_nil]
    exact ⟨ps1, rfl, o1, a1⟩
  · have hnews : ∀ j u, (tkCells ps2)[j]? = some u → W.cell? ((⟨g, 0, none⟩ : Addr).add j) = some u := fun j u hj => World.ownsRow.cells o2 (g := g) rfl j u hj
    have one2 := tkCells_one ps2 (fun p hp => by obtain ⟨a, c, h, -⟩ := (a2 p hp).1; exact ⟨_, _, _, h⟩)
    obtain ⟨v', w', hrun, hown, hgr, -, hor⟩ := run_append_own_at (P := Tryd.prog) W n 25 25 35 i0 _ 4 64 Tryd.underlying25 hi hz0 hz1 hz2 rfl (by decide) _ _ _ o1 ⟨g, 0, none⟩ ps2.length cap (tkCells ps2) (tkCells_len ps2) hnews one2 (by unfold maxLen; omega) (by omega) hn
    refine ⟨v', w', hrun, ⟨ps1 ++ ps2, by simp, ?_, fun p hp => ?_⟩, hgr, hor⟩
    · rw [List.length_append]; simpa [tkCells] using hown
    · rcases List.mem_append.1 hp with hp | hp
      · refine ⟨?_, fun r hr => ⟨((a1 p hp).2 r hr).1, ?_⟩⟩
        rotate_left
        · obtain ⟨cur, hc⟩ := ((a1 p hp).2 r hr).2
          exact ⟨cur, (hgr.block r ((a1 p hp).2.lt r hr) ((a1 p hp).2.ne o1 (by decide) r hr)).trans hc⟩
        obtain ⟨p1, c1, e1, e2, e3, e4⟩ := (a1 p hp).1
        refine ⟨p1, c1, e1, e2, e3, fun h0 => ?_⟩
        obtain ⟨b, o, f1, f2, f3, f4⟩ := e4 h0
        have hbb := hgr.block b f2 f3.2
        refine ⟨b, o, f1, Nat.lt_of_lt_of_le f2 hgr.size, ⟨f3.1, fun e => ?_⟩, fun i hi => ?_⟩
        · rcases hor with h | h
          · exact f3.2 (e.trans h)
          · rw [h] at e; have : b = W.heap.size := by injection e
            omega
        · exact ⟨(World.cell?_of_block (a := ⟨b, _, none⟩) hbb).trans (f4 i hi).1, (World.cell?_of_block (a := ⟨b, _, none⟩) hbb).trans (f4 i hi).2⟩
      · refine ⟨?_, fun r hr => ⟨Nat.le_trans hnm ((a2 p hp).2 r hr).1, ?_⟩⟩
        rotate_left
        · obtain ⟨cur, hc⟩ := ((a2 p hp).2 r hr).2
          exact ⟨cur, (hgr.block r ((a2 p hp).2.lt r hr) ((a2 p hp).2.ne o1 (by decide) r hr)).trans hc⟩
        obtain ⟨p1, c1, e1, e2, e3, e4⟩ := (a2 p hp).1
        refine ⟨p1, c1, e1, e2, e3, fun h0 => ?_⟩
        obtain ⟨b, o, f1, f2, f3, f4⟩ := e4 h0
        have hne : some b ≠ (Value.slice av ps1.length cv).ownBlock := fun e => by have := hv b e.symm; omega
        have hbb := hgr.block b f2 hne
        refine ⟨b, o, f1, Nat.lt_of_lt_of_le f2 hgr.size, ⟨by omega, fun e => ?_⟩, fun i hi => ?_⟩
        · rcases hor with h | h
          · exact hne (e.trans h)
          · rw [h] at e; have : b = W.heap.size := by injection e
            omega
        · exact ⟨(World.cell?_of_block (a := ⟨b, _, none⟩) hbb).trans (f4 i hi).1, (World.cell?_of_block (a := ⟨b, _, none⟩) hbb).trans (f4 i hi).2⟩
/-- rows of unlike types are apart -/
theorem owns_apart {w : World} {b1 b2 : Nat} {e1 e2 : TypeId} {s1 s2 : Nat} {v1 v2 : Value} {n1 n2 : Nat} {x1 x2 : List Value} (h1 : w.ownsRow b1 e1 s1 v1 n1 x1) (h2 : w.ownsRow b2 e2 s2 v2 n2 x2) (he : e1 ≠ e2) (r : Nat) (hr : v1.ownBlock = some r) : v2.ownBlock ≠ some r := by
  intro h
  rcases h1.2 with ⟨rfl, -⟩ | ⟨g, cap, cur, rfl, -, hg, -⟩
  · cases hr
  · rcases h2.2 with ⟨rfl, -⟩ | ⟨g', cap', cur', rfl, -, hg', -⟩
    · cases h
    · have e1 : g = r := by injection hr
      have e2 : g' = r := by injection h
      subst e1 e2
      rw [hg] at hg'
      injection hg' with hg'
      injection hg' with _ h _
      exact he h
theorem owns_row_keep {w w' : World} {b : Nat} {e : TypeId} {s : Nat} {v : Value} {n : Nat} {xs : List Value} {row : Option Nat} (h : w.ownsRow b e s v n xs) (hg : w.grownBy w' row) (hne : ∀ r, v.ownBlock = some r → row ≠ some r) : w'.ownsRow b e s v n xs := by
  refine ⟨h.1, ?_⟩
  rcases h.2 with h2 | ⟨g, cap, cur, rfl, h2, h3, h4⟩
  · exact .inl h2
  · exact .inr ⟨g, cap, cur, rfl, h2, (hg.block g (Array.getElem?_eq_some_iff.1 h3).1 (fun e => hne g rfl e.symm)).trans h3, h4⟩
/-- the parser stays where a row of tokens grows -/
theorem PsAt.row {n0 n B : Nat} {w w' : World} {S : Ps} {v : Value} {l : List Tk} (h : PsAt K n0 B w S) (hv : TkO n w v l) (hg : w.grownBy w' v.ownBlock) : PsAt K n0 B w' S := by
  obtain ⟨hB, wv, ov, an, ho, h1, h2⟩ := h
  obtain ⟨ps, -, o, -⟩ := hv
  refine ⟨hB, wv, ov, an, (hg.block B (Array.getElem?_eq_some_iff.1 ho).1 (fun e => ?_)).trans ho, owns_row_keep h1 hg (fun r hr => owns_apart h1 o (by decide) r hr), owns_row_keep h2.1 hg (fun r hr => owns_apart h2.1 o (by decide) r hr), h2.2⟩
  rcases o.2 with ⟨rfl, -⟩ | ⟨g, cap, cur, rfl, -, hg', -⟩
  · cases e
  · have e1 : B = g := by injection e
    subst e1
    rw [ho] at hg'
    injection hg' with hg'
    injection hg' with _ h _
    exact absurd h (by decide)
theorem AtX.lt2 {n : Nat} {w : World} {sv : Value} {al : Ats} (h : AtX (fun b => n ≤ b) w sv al) : AtX (fun b => n ≤ b ∧ b < w.heap.size) w sv al := by
  obtain ⟨p1, c1, e1, e2, e3, e4⟩ := h
  refine ⟨p1, c1, e1, e2, e3, fun h0 => ?_⟩
  obtain ⟨b, o, f1, f2, f3, f4⟩ := e4 h0
  exact ⟨b, o, f1, f2, ⟨f3, f2⟩, f4⟩
theorem atx_nil (W : World) (n : Nat) : AtX (fun b => n ≤ b) W (.slice none 0 0) [] := ⟨none, 0, rfl, by simp, by simp, fun h => absurd h (by simp)⟩
end Go.Proofs.YtjpdadibeocpfaaDoor
/-
  What waits is taken as a text (piece); a closing of a telling (tell). Condition: the parser lies at B.
-/
namespace Go.Proofs.YtjpdadibeocpfaaDoor
set_option linter.unusedVariables false
set_option linter.unusedSimpArgs false
open Go.RowKit Go.MapKept Go.Proofs
variable {K : Nat → Prop}
set_option maxRecDepth 100000 in
set_option maxHeartbeats 2000000 in
theorem piece_any (n0 B : Nat) (S : Ps) (w : World) (hP : PsAt K n0 B w S) :
    Calls Tryd.prog 36 #[.pointer (some ⟨B, 0, none⟩)] w fun e w' => e = .returned (.string ⟨S.w.toArray⟩) ∧ w' = w.setCell ⟨B, 0, none⟩ (.slice none 0 0) ∧ PsAt K n0 B w' ⟨[], S.q, S.op, S.rt⟩ := by
  obtain ⟨hBn, wv, ov, an, hobj, hOw, hOo⟩ := hP
  obtain ⟨c0, c1, c2, c3, c4, c5, hfz, hBl⟩ := pr_cells hobj
  have hconv := own_back hOw
  replace hobj := Lib.hid hobj
  replace hOw := Lib.hid hOw
  replace hOo := Lib.hid hOo
  go_enter Tryd.func36, Tryd.ntmps36
  go_wp2
  go_ret
  refine ⟨rfl, rfl, hBn, .slice none 0 0, ov, an, obj_set hobj.out _, World.ownsRow_nil _ _ _ _, owns_grown hOo.out.1 (Nat.le_refl _) hBn (grown_set _ (grown_of (Below.refl _ _))), fun r hr => by cases hr⟩
/-- the tokens told so far, in the variable at O -/
def OutAt (n0 O : Nat) (w : World) (l : List Tk) : Prop := O < n0 ∧ ∃ v, w.heap[O]? = some (.cells #[v] 25) ∧ TkO n0 w v l
/-- what a byte may turn: the parser, the tokens' variable, what lies from n0 on -/
structure Step2 (n0 B O : Nat) (w w' : World) : Prop where
  os : w'.os = w.os
  tape : w'.tape = w.tape
  output : w'.output = w.output
  size : w.heap.size ≤ w'.heap.size
  block : ∀ k, k < n0 → k ≠ B → k ≠ O → k < w.heap.size → w'.heap[k]? = w.heap[k]?
theorem Step2.refl (n0 B O : Nat) (w : World) : Step2 n0 B O w w := ⟨rfl, rfl, rfl, Nat.le_refl _, fun _ _ _ _ _ => rfl⟩
theorem Step2.trans {n0 B O : Nat} {w w1 w2 : World} (h : Step2 n0 B O w w1) (k : Step2 n0 B O w1 w2) : Step2 n0 B O w w2 :=
  ⟨k.os.trans h.os, k.tape.trans h.tape, k.output.trans h.output, Nat.le_trans h.size k.size, fun j a b c d => (k.block j a b c (Nat.lt_of_lt_of_le d h.size)).trans (h.block j a b c d)⟩
theorem Step2.below {n0 B O : Nat} {w w' : World} (h : Below w.heap.size w w') : Step2 n0 B O w w' := ⟨h.os, h.tape, h.output, h.size, fun k _ _ _ hk => h.block k hk⟩
theorem Step2.setB {n0 B O i : Nat} {w : World} (v : Value) : Step2 n0 B O w (w.setCell ⟨B, i, none⟩ v) := ⟨rfl, rfl, rfl, by rw [World.size_setCell]; exact Nat.le_refl _, fun k _ hk _ _ => Below.heap_setCell _ _ _ _ hk⟩
theorem Step2.setO {n0 B O i : Nat} {w : World} (v : Value) : Step2 n0 B O w (w.setCell ⟨O, i, none⟩ v) := ⟨rfl, rfl, rfl, by rw [World.size_setCell]; exact Nat.le_refl _, fun k _ _ hk _ => Below.heap_setCell _ _ _ _ hk⟩
theorem Step2.grown {n0 B O : Nat} {w w' : World} {row : Option Nat} (h : w.grownBy w' row) (hr : ∀ r, row = some r → n0 ≤ r) : Step2 n0 B O w w' := ⟨h.os, h.tape, h.output, h.size, fun k hk _ _ hs => h.block k hs (fun e => by have := hr k e.symm; omega)⟩
/-- a row of another type is another block -/
theorem row_ne {w : World} {b O size n : Nat} {e : TypeId} {v x : Value} {xs : List Value} (h : w.ownsRow b e size v n xs) (hob : w.heap[O]? = some (.cells #[x] 25)) (he : 25 ≠ e) (r : Nat) (hr : v.ownBlock = some r) : O ≠ r := by
  rcases h.2 with ⟨rfl, -⟩ | ⟨g, cap, cur, rfl, -, hg, -⟩
  · cases hr
  · rintro rfl
    have e1 : g = O := by injection hr
    subst e1
    rw [hob] at hg
    injection hg with hg
    injection hg with _ h _
    exact he h
theorem PsAt.setO {n0 B O i : Nat} {w : World} {S : Ps} {x : Value} (h : PsAt K n0 B w S) (hob : w.heap[O]? = some (.cells #[x] 25)) (hne : O ≠ B) (v : Value) : PsAt K n0 B (w.setCell ⟨O, i, none⟩ v) S := by
  obtain ⟨h1, wv, ov, an, h2, h3, h4⟩ := h
  have hg : w.grownBy (w.setCell ⟨O, i, none⟩ v) (some O) := ⟨rfl, rfl, rfl, by rw [World.size_setCell]; exact Nat.le_refl _, fun k _ hk => Below.heap_setCell _ _ _ _ (fun e => hk (by rw [e]))⟩
  exact ⟨h1, wv, ov, an, (Below.heap_setCell _ _ _ _ (fun e => hne e.symm)).trans h2, owns_row_keep h3 hg (fun r hr e => row_ne h3 hob (by decide) r hr (by injection e)), owns_row_keep h4.1 hg (fun r hr e => row_ne h4.1 hob (by decide) r hr (by injection e)), h4.2⟩
theorem OutAt.keep {n0 O : Nat} {w w' : World} {l : List Tk} (h : OutAt n0 O w l) (hs : w.heap.size ≤ w'.heap.size) (hb : ∀ k, k < w.heap.size → k = O ∨ n0 ≤ k → w'.heap[k]? = w.heap[k]?) : OutAt n0 O w' l := by
  obtain ⟨h1, v, h2, h3⟩ := h
  exact ⟨h1, v, (hb O (Array.getElem?_eq_some_iff.1 h2).1 (.inl rfl)).trans h2, h3.keep hs fun b h4 h5 => hb b h5 (.inr h4)⟩
theorem wpList_app_runP {P : Program} (w w' : World) {ops : Array Oper} {rest : List Oper} {o : Oper} {a : Act} {Q : Exit → Act → World → Prop} (hgd : o.guard = none) (s x : Operand) (t : TypeId)
    (ho : o.op = .call { callee := .builtin .append, args := #[s, x], argTypes := #[t, t] }) (v u v' : Value) (hs : a.eval s = v) (hx : a.eval x = u)
    (hrun : (Builtin.append_ #[t, t] o.type #[v, u]).run P w = .ok v' w') (h : wpList P ops Q rest (a.put o.dst v') w') : wpList P ops Q (o :: rest) a w := by
  refine wpList_plain hgd fun K hK => ?_
  unfold Oper.wp execOp
  simp only [ho, resolve, invoke, builtin, Sem.run_bind, Sem.run_pure, Result.andThen_ok, List.map_toArray, List.map_cons, List.map_nil, hs, hx, hrun]
  exact hK _ _ h
theorem tkO_row {n : Nat} {w : World} {v : Value} {l : List Tk} (h : TkO n w v l) (r : Nat) (hr : v.ownBlock = some r) : n ≤ r ∧ r < w.heap.size := by
  obtain ⟨ps, -, o, -⟩ := h
  exact o.lt r hr
set_option maxRecDepth 100000 in
set_option maxHeartbeats 2000000 in
theorem tell_any (n0 n1 B O m : Nat) (S : Ps) (l1 l2 : List Tk) (tv : Value) (w : World) (hP : PsAt K n0 B w S) (hO : OutAt n1 O w l1) (hne : O ≠ B) (hn : n1 ≤ w.heap.size) (h01 : n0 ≤ n1) (h2 : TkO m w tv l2) (hm : n1 ≤ m) (hrow : ∀ v, w.cell? ⟨O, 0, none⟩ = some v → ∀ r, v.ownBlock = some r → r < m) (hlen : l1.length + l2.length ≤ 1000) :
    Calls Tryd.prog 18 #[tv, .pointer (some ⟨O, 0, none⟩)] w fun e w' => e = .returned (.tuple #[]) ∧ PsAt K n0 B w' S ∧ OutAt n1 O w' (l1 ++ l2) ∧ Step2 n1 B O w w' := by
  obtain ⟨hOn, v, hob, hT⟩ := hO
  obtain ⟨xc, xf, xl⟩ := obj_cells hob
  have c0 : w.cell? ⟨O, 0, none⟩ = some v := (xc 0).trans rfl
  have happ := tk_append w n1 m v tv l1 l2 hT h2 hm (hrow v c0) hlen hn
  obtain ⟨v', w5, hrun, hT5, hg5, -⟩ := happ
  obtain ⟨a9, k9, c9, rfl⟩ : ∃ a9 k9 c9, v' = .slice a9 k9 c9 := by
    obtain ⟨ps5, -, o5, -⟩ := hT5
    obtain ⟨a9, c9, h⟩ := owns_val o5
    exact ⟨a9, _, c9, h⟩
  have hnr : ∀ k, k < n1 → some k ≠ v.ownBlock := fun k hk e => by have := (tkO_row hT k e.symm).1; omega
  have hob5 := (hg5.block O xl (hnr O hOn)).trans hob
  obtain ⟨xc5, xf5, xl5⟩ := obj_cells hob5
  have c5 : w5.cell? ⟨O, 0, none⟩ = some v := (xc5 0).trans rfl
  have f5 := xf5 0
  have hP5 := hP.row hT hg5
  have hE : ((w5.setCell ⟨O, 0, none⟩ (.slice a9 k9 c9))).heap[O]? = some (.cells #[(.slice a9 k9 c9)] 25) := obj_set (i := 0) hob5 (.slice a9 k9 c9)
  have hR1 : PsAt K n0 B (w5.setCell ⟨O, 0, none⟩ (.slice a9 k9 c9)) S := hP5.setO hob5 hne (.slice a9 k9 c9)
  have hR2 : OutAt n1 O (w5.setCell ⟨O, 0, none⟩ (.slice a9 k9 c9)) (l1 ++ l2) := ⟨hOn, (.slice a9 k9 c9), hE, hT5.keep (by rw [World.size_setCell]; exact Nat.le_refl _) fun b hb _ => Below.heap_setCell _ _ _ _ (by simp; omega)⟩
  have hR3 : Step2 n1 B O w (w5.setCell ⟨O, 0, none⟩ (.slice a9 k9 c9)) := (Step2.grown hg5 (fun r hr => (tkO_row hT r hr).1)).trans (Step2.setO (.slice a9 k9 c9))
  replace hR1 := Lib.hid hR1
  replace hR2 := Lib.hid hR2
  replace hR3 := Lib.hid hR3
  clear hE hP5 hob5 hob hT5 hg5 hP h2 hT hnr xc5 xf5 xc xf hrow
  go_enter Tryd.func18, Tryd.ntmps18
  go_wp2_with (at_builtin; refine wpList_app_runP _ w5 rfl _ _ 25 rfl v tv (.slice a9 k9 c9) rfl rfl hrun ?_)
  go_end0
  exact ⟨rfl, hR1.out, hR2.out, hR3.out⟩
end Go.Proofs.YtjpdadibeocpfaaDoor
/-
  A text between tags is told (xml.chars). Conditions: the parser lies at B, the tokens' variable at O; the text fits; an element is open.
-/
namespace Go.Proofs.YtjpdadibeocpfaaDoor
set_option linter.unusedVariables false
set_option linter.unusedSimpArgs false
open Go.RowKit Go.MapKept Go.Proofs
variable {K : Nat → Prop}
theorem OutAt.below {n0 O : Nat} {w w' : World} {l : List Tk} (h : OutAt n0 O w l) (hb : Below w.heap.size w w') : OutAt n0 O w' l := h.keep hb.size fun k hk _ => hb.block k hk
theorem OutAt.rows {n0 O : Nat} {w : World} {l : List Tk} (h : OutAt n0 O w l) (o : Obj) : ∀ v, (w.alloc o).cell? ⟨O, 0, none⟩ = some v → ∀ r, v.ownBlock = some r → r < w.heap.size := by
  obtain ⟨h1, v, h2, h3⟩ := h
  intro v' hv r hr
  have e := ((obj_cells (obj_alloc (o' := o) h2)).1 0).symm.trans hv
  obtain rfl : v = v' := by simpa using e
  exact (tkO_row h3 r hr).2
set_option maxRecDepth 100000 in
set_option maxHeartbeats 4000000 in
theorem xchars_any (n0 n1 B O : Nat) (t : List UInt8) (S : Ps) (l : List Tk) (w : World) (hP : PsAt K n0 B w S) (hO : OutAt n1 O w l) (hne : O ≠ B) (h0 : n1 ≤ w.heap.size) (h01 : n0 ≤ n1) (hf : fitsP t = true) (ht : t ≠ []) (hop : S.op ≠ []) (hl : l.length ≤ 900) :
    Calls Tryd.prog 35 #[.pointer (some ⟨B, 0, none⟩), .string ⟨(escL t).toArray⟩, .func (.func 18) #[] #[.pointer (some ⟨O, 0, none⟩)]] w fun e w' => e = .returned (.tuple #[]) ∧ PsAt K n0 B w' S ∧ OutAt n1 O w' (l ++ [⟨3, [], [], t⟩]) ∧ Step2 n1 B O w w' := by
  have hel := esc_len_le t hf
  have hch : charsP (escL t) = true := (chars_XC _).2 ((chars_XC t).1 (fits_chars hf)).esc
  have hUn := Lib.hid (unescape_any t w (by omega))
  have hCh : Hid (∀ W, Below w.heap.size w W → Calls Tryd.prog 31 #[.string ⟨(escL t).toArray⟩] W fun e w' => e = .returned (.bool true) ∧ Below W.heap.size W w') := Lib.hid fun W _ => by
    have := textChars_any (escL t) W (by omega)
    rwa [hch] at this
  have hte : t.isEmpty = false := by cases t with
    | nil => exact absurd rfl ht
    | cons c t => rfl
  replace hch := Lib.hid hch
  generalize escL t = T at hUn hCh hel
  replace ht := Lib.hid ht
  replace hP := Lib.hid hP
  replace hO := Lib.hid hO
  have hmf : ∀ (fn : Fn) (first cap : Array Value) (w : World), (Instr.makeFunc fn first cap).run Tryd.prog w = .ok (.func fn first cap) w := fun _ _ _ _ => rfl
  go_enter Tryd.func35, Tryd.ntmps35
  go_wp2_with (first
    | (go_at_call 48; refine hUn.out.mono ?_; rintro e w1 ⟨rfl, hb1⟩; replace hb1 := Lib.hid hb1)
    | (go_at_call 31; refine (hCh.out _ hb1.out).mono ?_; rintro e w2 ⟨rfl, hb2⟩; have hB2 := Lib.hid (belowT hb1.out hb2))
    | (go_at_call 37; refine (must_ok 6 _).mono ?_; rintro e w3 ⟨rfl, rfl⟩
       have hP2 := hP.out.below hB2.out
       have hO2 := hO.out.below hB2.out
       obtain ⟨hBn, wv, ov, an, hobj, hOw, hOo, hKw⟩ := hP2
       obtain ⟨c0, c1, c2, c3, c4, c5, hfz, hBl⟩ := pr_cells hobj
       have hP2 : Hid (PsAt K n0 B w2 S) := Lib.hid ⟨hBn, wv, ov, an, hobj, hOw, hOo, hKw⟩
       replace hKw := Lib.hid hKw
       obtain ⟨N, hN⟩ : ∃ N, S.op.length = N + 1 := by
         cases h : S.op with
         | nil => exact absurd h hop
         | cons x r => exact ⟨r.length, by simp⟩
       rw [hN] at hOo
       obtain ⟨oa, oc, rfl⟩ := owns_val hOo
       have hb1n : (((N : Int) + 1) == 0) = false := by rw [beq_eq_false_iff_ne]; omega
       replace hN := Lib.hid hN
       replace hobj := Lib.hid hobj
       replace hOw := Lib.hid hOw
       replace hOo := Lib.hid hOo
       replace hO2 := Lib.hid hO2)
    | (go_at_call 18
       refine (tell_any n0 n1 B O w2.heap.size S l [⟨3, [], [], t⟩] _ _ (hP2.out.below (below1 _ _)) (hO2.out.below (below1 _ _)) hne (by have := hB2.out.size; simp only [World.size_alloc]; omega) h01 (tkF_new 3 [] t (Nat.le_refl _) (atx_nil _ _) (atT_nil _ _)) (Nat.le_trans h0 hB2.out.size) (hO2.out.rows _) (by simp; omega)).mono ?_
       rintro e w5 ⟨rfl, hP5, hO5, hS5⟩; replace hP5 := Lib.hid hP5; replace hO5 := Lib.hid hO5; replace hS5 := Lib.hid hS5))
  go_end0
  exact ⟨rfl, hP5.out, hO5.out, (Step2.below (belowT hB2.out (below1 _ _))).trans hS5.out⟩
end Go.Proofs.YtjpdadibeocpfaaDoor
/-
  An end tag is read (xml.tag). Conditions: the parser lies at B, the tokens' variable at O; the innermost open name is the tag's.
-/
namespace Go.Proofs.YtjpdadibeocpfaaDoor
set_option linter.unusedVariables false
set_option linter.unusedSimpArgs false
open Go.RowKit Go.MapKept Go.Proofs
variable {K : Nat → Prop}
theorem name_cell {w : World} {n0 g c N : Nat} {op : List (List UInt8)} (h : w.ownsRow n0 9 1 (.slice (some ⟨g, 0, none⟩) N c) N (nameCells op)) (i : Nat) (hi : i < op.length) : w.cell? ⟨g, i, none⟩ = some (.string ⟨(op[i]'hi).toArray⟩) := by
  have := World.ownsRow.cells h (g := g) rfl i (.string ⟨(op[i]'hi).toArray⟩) (by simp [nameCells, hi])
  rwa [Addr.add_lit, Nat.zero_add] at this
theorem cutp_no (c d : UInt8) (r q : List UInt8) (W : World) (h : c ≠ d) : Calls Tryd.prog 50 #[.string ⟨(c :: r).toArray⟩, .string ⟨(d :: q).toArray⟩] W fun e w' => e = .returned (.tuple #[.string ⟨(c :: r).toArray⟩, .bool false]) ∧ W = w' := by
  have hp : Lib.hasPrefix (c :: r) (d :: q) = false := by
    show ((d == c) && q.isPrefixOf r) = false
    rw [beq_eq_false_iff_ne.2 (fun e => h e.symm)]; rfl
  refine (Tryd.strings_CutPrefix ⟨(c :: r).toArray⟩ ⟨(d :: q).toArray⟩ W).mono ?_
  rintro e w' ⟨rfl, h⟩
  refine ⟨ret_strb ?_ hp, h.symm⟩
  show Lib.trimPrefix (c :: r) (d :: q) = c :: r
  unfold Lib.trimPrefix
  rw [hp]; rfl
theorem cutp_yes (c : UInt8) (r : List UInt8) (W : World) : Calls Tryd.prog 50 #[.string ⟨(c :: r).toArray⟩, .string ⟨#[c]⟩] W fun e w' => e = .returned (.tuple #[.string ⟨r.toArray⟩, .bool true]) ∧ W = w' := by
  have hp : Lib.hasPrefix (c :: r) [c] = true := by simp [Lib.hasPrefix]
  refine (Tryd.strings_CutPrefix ⟨(c :: r).toArray⟩ ⟨#[c]⟩ W).mono ?_
  rintro e w' ⟨rfl, h⟩
  refine ⟨ret_strb ?_ hp, h.symm⟩
  show Lib.trimPrefix (c :: r) [c] = r
  unfold Lib.trimPrefix
  rw [hp]; rfl
theorem hasp_no (c d : UInt8) (r : List UInt8) (W : World) (h : c ≠ d) : Calls Tryd.prog 46 #[.string ⟨(c :: r).toArray⟩, .string ⟨#[d]⟩] W fun e w' => e = .returned (.bool false) ∧ W = w' := by
  refine (Tryd.strings_HasPrefix ⟨(c :: r).toArray⟩ ⟨#[d]⟩ W).mono ?_
  rintro e w' ⟨rfl, h'⟩
  exact ⟨ret_bool (by show ((d == c) && List.isPrefixOf [] r) = false; rw [beq_eq_false_iff_ne.2 (fun e => h e.symm)]; rfl), h'.symm⟩
theorem xname_all (n : List UInt8) (W : World) (hn : nameP n = true) :
    Calls Tryd.prog 53 #[.string ⟨n.toArray⟩] W fun e w' => e = .returned (.tuple #[.string ⟨n.toArray⟩, .string ⟨#[]⟩]) ∧ ∃ k, w' = W.drewN k := by
  have hh : headN nameC n = n.length := head_end (f := nameC) (Nat.le_refl _) (fun i hi _ => name_all hn _ (List.getElem_mem hi)) (fun h => absurd h (by omega))
  have hl := nameP_len hn
  have := xname_any n W (by omega) (by rw [hh, List.take_length]; exact hn)
  rw [hh, List.take_length, List.drop_length] at this
  exact this
set_option maxRecDepth 100000 in
set_option maxHeartbeats 8000000 in
theorem xtag_fin (n0 n1 B O : Nat) (n : List UInt8) (op : List (List UInt8)) (S : Ps) (l : List Tk) (w : World) (hP : PsAt K n0 B w S) (hO : OutAt n1 O w l) (hne : O ≠ B) (h0 : n1 ≤ w.heap.size) (h01 : n0 ≤ n1) (hn : nameP n = true) (hop : S.op = op ++ [n]) (h8 : op.length < 8) (hl : l.length ≤ 900) :
    Calls Tryd.prog 38 #[.pointer (some ⟨B, 0, none⟩), .string ⟨(60 :: (47 :: n ++ [62])).toArray⟩, .func (.func 18) #[] #[.pointer (some ⟨O, 0, none⟩)]] w fun e w' => e = .returned (.tuple #[]) ∧ PsAt K n0 B w' ⟨S.w, S.q, op, S.rt⟩ ∧ OutAt n1 O w' (l ++ [⟨2, n, [], []⟩]) ∧ Step2 n1 B O w w' := by
  have hnl := nameP_len hn
  have hg : (Pc.fin n).good := hn
  have hch : charsP (60 :: (47 :: n ++ [62])) = true := (body_facts hg rfl).2.2
  have hCh : Hid (Calls Tryd.prog 31 #[.string ⟨(60 :: (47 :: n ++ [62])).toArray⟩] w fun e w' => e = .returned (.bool true) ∧ Below w.heap.size w w') := Lib.hid (by
    have := textChars_any (60 :: (47 :: n ++ [62])) w (by simp; omega)
    rwa [hch] at this)
  have cA := Lib.hid (fun W => cutp_no 47 63 n [120, 109, 108] W (by decide))
  have cB := Lib.hid (fun W => hasp_no 47 33 n W (by decide))
  have cC := Lib.hid (fun W => hasp_no 47 63 n W (by decide))
  have cD := Lib.hid (fun W => cutp_yes 47 n W)
  have cN := Lib.hid (fun W => xname_all n W hn)
  have cS := Lib.hid (fun W => textSpace_any [] W (by simp))
  have x1 : (ByteArray.mk (60 :: (47 :: n ++ [62])).toArray).extract 1 ((60 :: (47 :: n ++ [62])).length - 1) = ⟨(47 :: n).toArray⟩ := by
    rw [ByteArray.extract_mk]; simp
  have hT2 : 3 ≤ (60 :: (47 :: n ++ [62])).length ∧ (60 :: (47 :: n ++ [62])).length ≤ 100 := by simp; omega
  replace hch := Lib.hid hch
  generalize 60 :: (47 :: n ++ [62]) = T at hCh x1 hT2 ⊢
  generalize 47 :: n = I at cA cB cC cD x1 ⊢
  obtain ⟨hT3, hT4⟩ := hT2
  have q2 : ((T.length : Int) - 1).toNat = T.length - 1 := by omega
  have q3 : (1 : Int) ≤ (T.length : Int) - 1 := by omega
  have q4 : (T.length : Int) - 1 ≤ (T.length : Int) := by omega
  have q5 : (0 : Int) ≤ (T.length : Int) - 1 := by omega
  replace hP := Lib.hid hP
  replace hO := Lib.hid hO
  replace hop := Lib.hid hop
  go_enter Tryd.func38, Tryd.ntmps38
  go_upto_region 8 with (first
    | (go_at_call 31; refine hCh.out.mono ?_; rintro e w1 ⟨rfl, hb1⟩; replace hb1 := Lib.hid hb1)
    | (go_at_call 37; refine (must_ok 6 _).mono ?_; rintro e w3 ⟨rfl, rfl⟩; have mM := Lib.hid True.intro)
    | (go_at_call 37; refine (must_ok 7 _).mono ?_; rintro e w3 ⟨rfl, rfl⟩)
    | (have mA := mB; clear mA; go_at_call 50; refine (cD.out _).mono ?_; rintro e w4 ⟨rfl, rfl⟩)
    | (go_at_call 50; refine (cA.out _).mono ?_; rintro e w4 ⟨rfl, rfl⟩)
    | (have mA := mC; clear mA; go_at_call 46; refine (cC.out _).mono ?_; rintro e w4 ⟨rfl, rfl⟩; have mB := Lib.hid True.intro)
    | (go_at_call 46; refine (cB.out _).mono ?_; rintro e w4 ⟨rfl, rfl⟩; have mC := Lib.hid True.intro)
    | (go_at_call 53; refine (cN.out _).mono ?_; rintro e w5 ⟨rfl, k5, rfl⟩))
  have hP5 : PsAt K n0 B (w1.drewN k5) S := hP.out.below (belowN hb1.out k5)
  have hO5 : OutAt n1 O (w1.drewN k5) l := hO.out.below (belowN hb1.out k5)
  have hB5 := Lib.hid (belowN hb1.out k5)
  generalize w1.drewN k5 = w5 at hP5 hO5 hB5 ⊢
  clear hb1 hCh cA cB cC cD cN x1 hP hO
  obtain ⟨Sw, Sq, So, Sr⟩ := S
  have hop' : So = op ++ [n] := hop.out
  subst hop'
  obtain ⟨hBn, wv, ov, an, hobj, hOw, hOo, hKw⟩ := hP5
  obtain ⟨g, cp, rfl, hcp⟩ : ∃ g cp, ov = .slice (some ⟨g, 0, none⟩) (op.length + 1) cp ∧ op.length + 1 ≤ cp := by
    rcases hOo.2 with ⟨_, h0⟩ | ⟨g, cap, cur, hv, hb, hg', k1, k2, k3, k4⟩
    · simp at h0
    · exact ⟨g, cap, by rw [hv]; simp, by simp at k1 k2 k3; omega⟩
  have hcpI : (op.length : Int) ≤ (cp : Int) := by omega
  have hcp0 : (0 : Int) ≤ (op.length : Int) := by omega
  have hOo' : w5.ownsRow n0 9 1 (.slice (some ⟨g, 0, none⟩) (op.length + 1) cp) (op.length + 1) (nameCells (op ++ [n])) := by simpa using hOo
  obtain ⟨c0, c1, c2, c3, c4, c5, hfz, hBl⟩ := pr_cells hobj
  have hgl := (hOo'.lt g rfl)
  have hnc : w5.cell? ⟨g, op.length, none⟩ = some (.string ⟨n.toArray⟩) := by
    have := name_cell hOo' op.length (by simp)
    simpa using this
  have hnew : w5.ownsRow n0 9 1 (.slice (some ⟨g, 0, none⟩) op.length cp) op.length (nameCells op) := by
    have := owns_head_of hOo' (by omega) (m := op.length) (by omega)
    have e : (nameCells (op ++ [n])).take (op.length * 1) = nameCells op := by unfold nameCells; rw [List.map_append, Nat.mul_one]; exact List.take_left' (by simp)
    rwa [e] at this
  have hm1 : (((op.length : Nat) : Int) + 1 - 1) = (op.length : Int) := by omega
  have hPs : Hid (PsAt K n0 B w5 ⟨Sw, Sq, op ++ [n], Sr⟩) := Lib.hid ⟨hBn, wv, _, an, hobj, hOw, hOo, hKw⟩
  replace hKw := Lib.hid hKw
  replace hobj := Lib.hid hobj
  replace hOw := Lib.hid hOw
  replace hOo := Lib.hid hOo
  replace hOo' := Lib.hid hOo'
  replace hnew := Lib.hid hnew
  replace hO5 := Lib.hid hO5
  go_wp2_with (first
    | (go_at_call 49; refine (cS.out _).mono ?_; rintro e w6 ⟨rfl, hb6⟩
       rw [show (Lib.trimS [] [32, 9, 10, 13]).isEmpty = true from rfl]
       have d2 : w6.cell? ⟨B, 2, none⟩ = some (.slice (some ⟨g, 0, none⟩) (op.length + 1) cp) := ((bat hb6 B hBl).1 2).trans c2
       have dn : w6.cell? ⟨g, op.length, none⟩ = some (.string ⟨n.toArray⟩) := ((bat hb6 g hgl.2).1 op.length).trans hnc
       have df := (bat hb6 B hBl).2
       replace hb6 := Lib.hid hb6)
    | (go_at_call 37; refine (must_ok 6 _).mono ?_; rintro e w7 ⟨rfl, rfl⟩)
    | (go_at_call 18
       go_loud
        (have hobj6 := (hb6.out.block B hBl).trans hobj.out
         have hG : w5.grownBy (w6.setCell ⟨B, 2, none⟩ (.slice (some ⟨g, 0, none⟩) op.length cp)) (some B) := grown_set _ (grown_of hb6.out)
         have hP7 : PsAt K n0 B (w6.setCell ⟨B, 2, none⟩ (.slice (some ⟨g, 0, none⟩) op.length cp)) ⟨Sw, Sq, op, Sr⟩ := ⟨hBn, wv, _, an, obj_set (i := 2) hobj6 _, owns_grown hOw.out (Nat.le_refl _) hBn hG, owns_grown hnew.out (Nat.le_refl _) hBn hG, hKw.out⟩
         have hO7 : OutAt n1 O (w6.setCell ⟨B, 2, none⟩ (.slice (some ⟨g, 0, none⟩) op.length cp)) l := (hO5.out.below hb6.out).keep (by rw [World.size_setCell]; exact Nat.le_refl _) (fun k hk hk2 => Below.heap_setCell _ _ _ _ (by rcases hk2 with h | h <;> (simp; omega)))
         have hS7 : Step2 n1 B O w (w6.setCell ⟨B, 2, none⟩ (.slice (some ⟨g, 0, none⟩) op.length cp)) := (Step2.below (belowT hB5.out hb6.out)).trans (Step2.setB _)
         have hs6 := Nat.le_trans hB5.out.size hb6.out.size
         have hT7 := tkF_new (W := w6.setCell ⟨B, 2, none⟩ (.slice (some ⟨g, 0, none⟩) op.length cp)) 2 n [] (Nat.le_refl _) (atx_nil _ _) (atT_nil _ _)
         have hR7 := hO7.rows (.cells #[.int .u8 2, .string ⟨n.toArray⟩, .slice none 0 0, .string ⟨#[]⟩] 35)
         simp only [World.size_setCell] at hT7 hR7
         refine (tell_any n0 n1 B O w6.heap.size ⟨Sw, Sq, op, Sr⟩ l [⟨2, n, [], []⟩] _ _ (hP7.below (below1 _ _)) (hO7.below (below1 _ _)) hne (by simp only [World.size_alloc, World.size_setCell]; omega) h01 hT7 (by omega) hR7 (by simp; omega)).mono ?_
         rintro e w8 ⟨rfl, hP8, hO8, hS8⟩
         have hS9 := Lib.hid ((hS7.trans (Step2.below (below1 _ _))).trans hS8)
         replace hP8 := Lib.hid hP8
         replace hO8 := Lib.hid hO8
         clear hobj6 hG hP7 hO7 hS7 hT7 hR7 hS8)))
  exact bodyPost_ret (results_none rfl _ _ _) rfl ⟨rfl, hP8.out, hO8.out, hS9.out⟩
end Go.Proofs.YtjpdadibeocpfaaDoor
/-
  What begin's own calls compute on a printed start tag's inside (strings.CutSuffix, xml.space, xml.name). Conditions: a right name; within the reach.
-/
namespace Go.Proofs.YtjpdadibeocpfaaDoor
set_option linter.unusedVariables false
set_option linter.unusedSimpArgs false
open Go.RowKit Go.MapKept Go.Proofs
theorem cutsuf_no (n : List UInt8) (al : Ats) (W : World) (hn : nameP n = true) (hs : (n ++ atsL al).length ≤ 140737488351232) :
    Calls Tryd.prog 67 #[.string ⟨(n ++ atsL al).toArray⟩, .string ⟨#[47]⟩] W fun e w' => e = .returned (.tuple #[.string ⟨(n ++ atsL al).toArray⟩, .bool false]) ∧ W = w' := by
  have hp := no_slash (n := n) (al := al) hn
  refine (Tryd.strings_CutSuffix ⟨(n ++ atsL al).toArray⟩ ⟨#[47]⟩ W (by simp only [ByteArray.size, List.size_toArray]; omega)).mono ?_
  rintro e w' ⟨rfl, h⟩
  refine ⟨ret_strb ?_ hp, h.symm⟩
  show Lib.trimSuffix (n ++ atsL al) [47] = n ++ atsL al
  unfold Lib.trimSuffix
  rw [hp]; rfl
theorem cutsuf_yes (s T : List UInt8) (W : World) (hT : T = s ++ [47]) (hs : T.length ≤ 140737488351232) :
    Calls Tryd.prog 67 #[.string ⟨T.toArray⟩, .string ⟨#[47]⟩] W fun e w' => e = .returned (.tuple #[.string ⟨s.toArray⟩, .bool true]) ∧ W = w' := by
  have hp : Lib.hasSuffix T [47] = true := by
    unfold Lib.hasSuffix
    rw [hT]
    exact List.isSuffixOf_iff_suffix.2 ⟨s, rfl⟩
  have ht : Lib.trimSuffix T [47] = s := by
    unfold Lib.trimSuffix
    rw [hp, hT]
    simp
  clear hT
  refine (Tryd.strings_CutSuffix ⟨T.toArray⟩ ⟨#[47]⟩ W (by simp only [ByteArray.size, List.size_toArray]; omega)).mono ?_
  rintro e w' ⟨rfl, h⟩
  exact ⟨ret_strb ht hp, h.symm⟩
theorem space_1 (c : UInt8) (r : List UInt8) (hc : blC c = false) (W : World) (hs : (32 :: c :: r).length ≤ 140737488351232) :
    Calls Tryd.prog 51 #[.string ⟨(32 :: c :: r).toArray⟩] W fun e w' => e = .returned (.int .i64 1) ∧ Below W.heap.size W w' := by
  refine (space_any (32 :: c :: r) W hs).mono ?_
  rintro e w' ⟨rfl, hb⟩
  have h : Lib.trimLeftS (32 :: c :: r) [32, 9, 10, 13] = c :: r := by
    unfold Lib.trimLeftS
    rw [List.dropWhile_cons_of_pos (by decide), List.dropWhile_cons_of_neg]
    intro h
    unfold blC at hc
    rw [decide_eq_false_iff_not] at hc
    simp at h
    exact hc (by omega)
  rw [h]
  exact ⟨ret_int (by simp only [List.length_cons]; omega), hb⟩
theorem space_nil (W : World) : Calls Tryd.prog 51 #[.string ⟨#[]⟩] W fun e w' => e = .returned (.int .i64 0) ∧ Below W.heap.size W w' := by
  refine (space_any [] W (by simp)).mono ?_
  rintro e w' ⟨rfl, hb⟩
  exact ⟨rfl, hb⟩
/-- the name at a start tag's head -/
theorem xname_ats (n : List UInt8) (al : Ats) (W : World) (hn : nameP n = true) (hs : (n ++ atsL al).length ≤ 140737488351232) :
    Calls Tryd.prog 53 #[.string ⟨(n ++ atsL al).toArray⟩] W fun e w' => e = .returned (.tuple #[.string ⟨n.toArray⟩, .string ⟨(atsL al).toArray⟩]) ∧ ∃ k, w' = W.drewN k := by
  cases al with
  | nil =>
    rw [show atsL [] = [] from rfl, List.append_nil]
    exact xname_all n W hn
  | cons p al =>
    have e : atsL (p :: al) = 32 :: (p.1 ++ 61 :: 39 :: (escL p.2 ++ 39 :: atsL al)) := by
      unfold atsL
      rw [List.flatMap_cons]
      simp [atP]
    rw [e] at hs ⊢
    exact xname_at n 32 _ W hn (by decide) hs
end Go.Proofs.YtjpdadibeocpfaaDoor
/-
  No attribute ahead has this name (slices.ContainsFunc with begin's closure). Condition: at most 1000 attributes.
-/
namespace Go.Proofs.YtjpdadibeocpfaaDoor
set_option linter.unusedVariables false
set_option linter.unusedSimpArgs false
open Go.RowKit Go.MapKept Go.Proofs
theorem dupName_any (x y nm : List UInt8) (b : Nat) (W : World) (hx : x ≠ nm) (hc : W.cell? ⟨b, 0, none⟩ = some (.string ⟨nm.toArray⟩)) (hb : b < W.heap.size) :
    Calls Tryd.prog 70 #[.agg #[.string ⟨x.toArray⟩, .string ⟨y.toArray⟩], .pointer (some ⟨b, 0, none⟩)] W fun e w' => e = .returned (.bool false) ∧ Below W.heap.size W w' := by
  have hf : (nm == x) = false := by rw [beq_eq_false_iff_ne]; exact fun e => hx e.symm
  have hf2 : (x == nm) = false := by rw [beq_eq_false_iff_ne]; exact hx
  replace hx := Lib.hid hx
  go_enter Tryd.func70, Tryd.ntmps70
  go_wp2
  go_ret
  exact ⟨by simp [hf, hf2], below1 _ _⟩
set_option maxHeartbeats 2000000 in
theorem ixAttr_any (ptr : Option Addr) (cap N g b : Nat) (al : Ats) (nm : List UInt8) (w : World) (hN : al.length = N) (hptr : 0 < N → ptr = some ⟨g, 0, none⟩) (hN1 : N ≤ 1000)
    (hcs : ∀ i (h : i < al.length), w.cell? ⟨g, i * 2, none⟩ = some (.string ⟨(al[i]'h).1.toArray⟩) ∧ w.cell? ⟨g, i * 2 + 1, none⟩ = some (.string ⟨(al[i]'h).2.toArray⟩)) (hg : 0 < N → g < w.heap.size)
    (hno : ∀ i (h : i < al.length), (al[i]'h).1 ≠ nm) (hc : w.cell? ⟨b, 0, none⟩ = some (.string ⟨nm.toArray⟩)) (hb : b < w.heap.size) :
    Calls Tryd.prog 82 #[.slice ptr N cap, .func (.func 70) #[] #[.pointer (some ⟨b, 0, none⟩)]] w fun e w' => e = .returned (.int .i64 (-1)) ∧ Below w.heap.size w w' := by
  replace hN := Lib.hid hN
  replace hcs := Lib.hid hcs
  replace hno := Lib.hid hno
  replace hptr := Lib.hid hptr
  replace hg := Lib.hid hg
  go_enter Tryd.func82, Tryd.ntmps82
  go_wp2
  go_loopw [8] (fun s8 wr => ∃ k : Nat, k ≤ N ∧ s8 = .int .i64 k ∧ Hid (Below w.heap.size w wr)) (fun s8 _ => N - (intOf s8).toNat)
  case atStart => exact ⟨0, Nat.zero_le _, rfl, Lib.hid (Below.refl _ _)⟩
  case round =>
    obtain ⟨k, hk, rfl, hB⟩ := hrel
    by_cases hlt : k < N
    · have hk3 : k < al.length := by have := hN.out; omega
      obtain rfl := hptr.out (by omega)
      have hgl := hg.out (by omega)
      obtain ⟨d0, d1⟩ := hcs.out k hk3
      replace d0 := (hB.out.cell (p := ⟨g, k * 2, none⟩) hgl).trans d0
      replace d1 := (hB.out.cell (p := ⟨g, k * 2 + 1, none⟩) hgl).trans d1
      have hcw := (hB.out.cell (p := ⟨b, 0, none⟩) hb).trans hc
      have hbw : b < wr.heap.size := Nat.lt_of_lt_of_le hb hB.out.size
      have hgw : g < wr.heap.size := Nat.lt_of_lt_of_le hgl hB.out.size
      have hS := Lib.hid (dupName_any (al[k]'hk3).1 (al[k]'hk3).2 nm b wr (hno.out k hk3) hcw hbw)
      generalize (al[k]'hk3) = p at d0 d1 hS
      obtain ⟨x, y⟩ := p
      simp only at d0 d1 hS
      have hki : (k : Int) < (N : Int) := by omega
      have hk0 : (0 : Int) ≤ (k : Int) := by omega
      replace hcw := Lib.hid hcw
      go_wp2_with (go_at_call 70; refine hS.out.mono ?_; rintro e w2 ⟨rfl, hb2⟩; replace hb2 := Lib.hid hb2)
      go_roundw
      case rel => exact ⟨k + 1, by omega, by go_num, Lib.hid (belowT hB.out hb2.out)⟩
      case measure => simp [intOf]; omega
    · obtain rfl : k = N := by omega
      go_wp2
      go_ret
      exact ⟨rfl, hB.out⟩
theorem noDup_any (ptr : Option Addr) (cap N g b : Nat) (al : Ats) (nm : List UInt8) (w : World) (hN : al.length = N) (hptr : 0 < N → ptr = some ⟨g, 0, none⟩) (hN1 : N ≤ 1000)
    (hcs : ∀ i (h : i < al.length), w.cell? ⟨g, i * 2, none⟩ = some (.string ⟨(al[i]'h).1.toArray⟩) ∧ w.cell? ⟨g, i * 2 + 1, none⟩ = some (.string ⟨(al[i]'h).2.toArray⟩)) (hg : 0 < N → g < w.heap.size)
    (hno : ∀ i (h : i < al.length), (al[i]'h).1 ≠ nm) (hc : w.cell? ⟨b, 0, none⟩ = some (.string ⟨nm.toArray⟩)) (hb : b < w.heap.size) :
    Calls Tryd.prog 69 #[.slice ptr N cap, .func (.func 70) #[] #[.pointer (some ⟨b, 0, none⟩)]] w fun e w' => e = .returned (.bool false) ∧ Below w.heap.size w w' := by
  have hI := Lib.hid (ixAttr_any ptr cap N g b al nm w hN hptr hN1 hcs hg hno hc hb)
  clear hN hptr hcs hg hno hc hb
  go_enter Tryd.func69, Tryd.ntmps69
  go_wp2_with (go_at_call 82; refine hI.out.mono ?_; rintro e w1 ⟨rfl, hb1⟩)
  go_ret
  exact ⟨rfl, hb1⟩
end Go.Proofs.YtjpdadibeocpfaaDoor
