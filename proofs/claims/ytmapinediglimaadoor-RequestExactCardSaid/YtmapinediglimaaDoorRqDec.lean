/-
  What tokens say (request.Decode), by the program. Conditions: no text beyond the reach; the library's variables are as they were laid.
-/
import Derived.Test.YtmapinediglimaaDoorRqIdx
import Derived.Test.YtmapinediglimaaDoorRqP2
import Derived.Deep.RegionHeld3
import Derived.Deep.Cut
namespace Go.Proofs.YtmapinediglimaaDoor
set_option linter.unusedVariables false
set_option linter.unusedSimpArgs false
open Go.RowKit Go.MapKept
def decV (x : Option Rq) : Value := .tuple #[rqV (x.getD (zeroR 0)), .int .i64 (errQ x.isSome)]
theorem heapAt_last {w : World} {o : Obj} {n : Nat} (h : n = w.heap.size) : (w.alloc o).heap[n]? = some o := by subst h; exact (heap_alloc w o).1
theorem wrap8 (n : Nat) (h : n < 256) : IntKind.u8.wrap (n : Int) = n := by
  unfold IntKind.wrap
  simp [IntKind.bits, IntKind.signed]
  omega
theorem set_small {r : Rq} {p : List UInt8 × List UInt8} (h : r.small) (hp : p.2.length ≤ 140737488351232) : (setR r p).small := by
  obtain ⟨h1, h2, h3, h4, h5, h6⟩ := h
  unfold setR
  repeat' split
  all_goals exact ⟨by assumption, by assumption, by assumption, by assumption, by assumption, by assumption⟩
theorem readA_small : ∀ (r : Rq) (al : Ats), r.small → (∀ p ∈ al, p.1.length ≤ 140737488351232 ∧ p.2.length ≤ 140737488351232) → (readA r al).small
  | _, [], h, _ => h
  | r, p :: al, h, hp => readA_small (setR r p) al (set_small h (hp p (by simp)).2) (fun q hq => hp q (by simp [hq]))
def rqC (r : Rq) : Array Value := #[.int .u8 r.vb, .string ⟨r.nd.toArray⟩, .string ⟨r.it.toArray⟩, .string ⟨r.jd.toArray⟩, .int .u8 r.ro, .int .u8 r.ac, .int .i64 r.mx, .int .i64 r.dp, .string ⟨r.pa.toArray⟩, .bool r.co, .string ⟨r.tx.toArray⟩]
/-- what stands in memory while the attributes are read -/
structure Lp (w W0 : World) (B : Nat) (x : Rq) (W : World) : Prop where
  obj : W.heap[B]? = some (.cells (rqC x) 26)
  oth : ∀ k, k < W0.heap.size → k ≠ B → W.heap[k]? = W0.heap[k]?
  size : W0.heap.size ≤ W.heap.size
  below : Below w.heap.size w W
theorem Lp.call {w W0 W W' : World} {B : Nat} {x : Rq} (h : Lp w W0 B x W) (hb : Below W.heap.size W W') : Lp w W0 B x W' :=
  ⟨(hb.block _ (Array.getElem?_eq_some_iff.1 h.obj).1).trans h.obj, fun k h1 h2 => (hb.block k (Nat.lt_of_lt_of_le h1 h.size)).trans (h.oth k h1 h2), Nat.le_trans h.size hb.size, belowT h.below hb⟩
theorem Lp.al {w W0 W : World} {B : Nat} {x : Rq} (h : Lp w W0 B x W) (o : Obj) : Lp w W0 B x (W.alloc o) := h.call (below1 _ _)
theorem Lp.set {w W0 W : World} {B i : Nat} {x y : Rq} {v : Value} (h : Lp w W0 B x W) (hB : w.heap.size ≤ B) (he : (rqC x).setIfInBounds i v = rqC y) : Lp w W0 B y (W.setCell ⟨B, i, none⟩ v) :=
  ⟨by rw [← he]; exact obj_set h.obj v, fun k h1 h2 => (Below.heap_setCell _ _ _ _ (by simpa using h2)).trans (h.oth k h1 h2), by simpa [World.setCell] using h.size, h.below.setCell (by exact hB) _⟩
set_option maxRecDepth 100000 in
theorem decode_short (v : Value) (l : List Tk) (w : World) (h : TkS w v l) (hn : ¬ (l.length = 4 ∨ l.length = 5)) :
    Calls Tryd.prog 10 #[v] w fun e w' => e = .returned (decV (decR l)) ∧ Below w.heap.size w w' := by
  have e1 : decR l = none := by unfold decR; rw [if_neg hn]
  rw [e1]
  obtain ⟨vp, vc, rfl, -⟩ := h
  generalize l.length = n at *
  have h4 : ((n : Int) != 4) = true := by simp; omega
  have h5 : ((n : Int) != 5) = true := by simp; omega
  go_enter Tryd.func10, Tryd.ntmps10
  go_wp2_with fail
  refine bodyPost_ret (v := .tuple #[.agg #[.int .u8 0, .string ⟨#[]⟩, .string ⟨#[]⟩, .string ⟨#[]⟩, .int .u8 0, .int .u8 0, .int .i64 0, .int .i64 0, .string ⟨#[]⟩, .bool false, .string ⟨#[]⟩], .int .i64 3]) (by simp [results, Tryd.results10, go_sem]) rfl ⟨rfl, ?_⟩
  exact below1 _ _
set_option maxRecDepth 100000 in
set_option maxHeartbeats 8000000 in
theorem decode_long (v : Value) (l : List Tk) (w : World) (h : TkS w v l) (hs : ∀ tk ∈ l, tk.small) (hn : l.length = 4 ∨ l.length = 5) (hT : Tabs w) :
    Calls Tryd.prog 10 #[v] w fun e w' => e = .returned (decV (decR l)) ∧ Below w.heap.size w w' := by
  have hS : ∀ v1 a W, TkS W v1 a → TkS W v l → Calls Tryd.prog 26 #[v1, v] W fun e w' => e = .returned (.bool (sameL a l)) ∧ Below W.heap.size W w' := fun v1 a W h1 h2 => same_any v1 v a l W h1 h2
  have hd : decR l = if rightR (readR l) && sameL (toksR (readR l)) l then some (readR l) else none := by unfold decR; rw [if_pos hn]
  have p1 : 1 < l.length := by omega
  have p2 : 2 < l.length := by omega
  have hr := readR_at (l := l) p1
  have hTk := h
  obtain ⟨vp, vc, rfl, hc1, hc2, hcell⟩ := h
  obtain ⟨b, o, rfl, hb, hcc⟩ := hcell (by omega)
  obtain ⟨sv1, c0, c1, c2, c3, hA1⟩ := hcc 1 p1
  obtain ⟨sv2, f0, f1, f2, f3, -⟩ := hcc 2 p2
  have hs1 := hs _ (List.getElem_mem p1)
  have hs2 := hs _ (List.getElem_mem p2)
  have hl2 : l[2]? = some (l[2]'p2) := List.getElem?_eq_getElem p2
  rw [hl2] at hr
  generalize l[1]'p1 = tk1 at c0 c1 c2 c3 hA1 hs1 hr
  generalize l[2]'p2 = tk2 at f3 hs2 hr
  obtain ⟨k1, n1, al, t1⟩ := tk1
  obtain ⟨k2, n2, al2, t2⟩ := tk2
  simp only [Option.map_some, Option.getD_some] at c0 c1 c2 c3 hA1 f3 hr hs1 hs2
  rw [show o + 1 * 4 = o + 4 by omega] at c0 c1 c2 c3
  rw [show o + 2 * 4 = o + 8 by omega] at f3
  clear hcc f0 f1 f2 hl2 hcell
  obtain ⟨ap, ac, rfl, ha1, ha2, hat⟩ := hA1
  have ha9 : (al.length : Int) ≤ 9223372036854775807 := by unfold maxLen at ha2; omega
  have hn9 : (l.length : Int) ≤ 9223372036854775807 := by rcases hn with h | h <;> rw [h] <;> decide
  rw [hd]
  clear hd
  generalize readR l = R at *
  generalize hq : sameL (toksR R) l = q
  replace hq := Lib.hid hq
  generalize hans : (if (rightR R && q) = true then some R else none) = ANS
  replace hans := Lib.hid hans
  have hvi := index_verbs
  have hri := index_roles
  have hai := index_acc
  have hno := fun (s : List UInt8) (hs : s.length ≤ 140737488351232) (W : World) (hb : Below w.heap.size w W) => number_any s W hs (hT.below hb)
  have hEn := fun (r : Rq) (hs : r.small) (W : World) (hb : Below w.heap.size w W) => enc_any r W hs (hT.pow.below hb)
  replace hvi := Lib.hid hvi
  replace hri := Lib.hid hri
  replace hai := Lib.hid hai
  replace hno := Lib.hid hno
  replace hEn := Lib.hid hEn
  replace hS := Lib.hid hS
  replace hT := Lib.hid hT
  replace hTk := Lib.hid hTk
  replace hat := Lib.hid hat
  replace hs := Lib.hid hs
  replace hs1 := Lib.hid hs1
  replace hs2 := Lib.hid hs2
  replace hr := Lib.hid hr
  have hN5 : Hid (l.length = 4 ∨ l.length = 5) := Lib.hid hn
  generalize l.length = N at *
  go_enter Tryd.func10, Tryd.ntmps10
  go_upto_region 1 with (fail)
  go_cut [22] (fun v22 W => v22 = .bool false ∧ W = w.alloc (.cells #[.int .u8 0, .string ⟨#[]⟩, .string ⟨#[]⟩, .string ⟨#[]⟩, .int .u8 0, .int .u8 0, .int .i64 0, .int .i64 0, .string ⟨#[]⟩, .bool false, .string ⟨#[]⟩] 26))
  case first =>
    rcases hn with rfl | rfl
    all_goals (go_wp2_with fail; go_meet; exact ⟨rfl, rfl⟩)
  case rest =>
    obtain ⟨rfl, rfl⟩ := hcut
    have z1 : (1 : Int) < N := by omega
    have z2 : (2 : Int) < N := by omega
    clear hn p1 p2
    have b1 : b < w.heap.size + 1 := by omega
    have b2 : b < w.heap.size + 1 + 1 := by omega
    go_upto_region 6 with (first
      | (go_at_call 23; refine (verbs_any _).mono ?_; rintro e w1 ⟨rfl, oV, rfl⟩)
      | (go_at_call 19; refine (roles_any _).mono ?_; rintro e w1 ⟨rfl, oR, rfl⟩)
      | (go_at_call 17; refine (accesses_any _).mono ?_; rintro e w1 ⟨rfl, oC, rfl⟩)
      | (go_at_call 16; refine (types_any _).mono ?_; rintro e w1 ⟨rfl, oY, rfl⟩))
    obtain ⟨W0, hW0⟩ : ∃ W0, W0 = ((((((((((w.alloc (.cells #[.int .u8 0, .string ⟨#[]⟩, .string ⟨#[]⟩, .string ⟨#[]⟩, .int .u8 0, .int .u8 0, .int .i64 0, .int .i64 0, .string ⟨#[]⟩, .bool false, .string ⟨#[]⟩] 26)).alloc (.cells #[.int .u8 0, .string ⟨#[]⟩, .string ⟨#[]⟩, .string ⟨#[]⟩, .int .u8 0, .int .u8 0, .int .i64 0, .int .i64 0, .string ⟨#[]⟩, .bool false, .string ⟨#[]⟩] 26)).alloc (.cells #[.int .u8 k1, .string ⟨n1.toArray⟩, .slice ap al.length ac, .string ⟨t1.toArray⟩] 39)).alloc oV).alloc oR).alloc oC).alloc oY).alloc (.cells #[.string ⟨#[]⟩, .string ⟨#[99, 114, 101, 97, 116, 101]⟩, .string ⟨#[114, 101, 109, 111, 118, 101]⟩, .string ⟨#[99, 111, 110, 102, 105, 103, 117, 114, 101]⟩, .string ⟨#[115, 117, 98, 115, 99, 114, 105, 98, 101]⟩, .string ⟨#[117, 110, 115, 117, 98, 115, 99, 114, 105, 98, 101]⟩, .string ⟨#[97, 112, 112, 114, 111, 118, 101]⟩, .string ⟨#[100, 101, 110, 121]⟩, .string ⟨#[97, 102, 102, 105, 108, 105, 97, 116, 101]⟩, .string ⟨#[112, 117, 98, 108, 105, 115, 104]⟩, .string ⟨#[114, 101, 116, 114, 97, 99, 116]⟩, .string ⟨#[112, 117, 114, 103, 101]⟩, .string ⟨#[105, 116, 101, 109, 115]⟩, .string ⟨#[97, 115, 115, 111, 99, 105, 97, 116, 101]⟩, .string ⟨#[100, 105, 115, 115, 111, 99, 105, 97, 116, 101]⟩, .string ⟨#[110, 111, 100, 101, 115]⟩] 62)).alloc (.cells #[.string ⟨#[]⟩, .string ⟨#[111, 117, 116, 99, 97, 115, 116]⟩, .string ⟨#[110, 111, 110, 101]⟩, .string ⟨#[109, 101, 109, 98, 101, 114]⟩, .string ⟨#[112, 117, 98, 108, 105, 115, 104, 101, 114]⟩, .string ⟨#[111, 119, 110, 101, 114]⟩] 57)).alloc (.cells #[.string ⟨#[111, 112, 101, 110]⟩, .string ⟨#[97, 117, 116, 104, 111, 114, 105, 122, 101]⟩, .string ⟨#[119, 104, 105, 116, 101, 108, 105, 115, 116]⟩] 54)).alloc (.cells #[.string ⟨leafW.toArray⟩, .string ⟨collectionW.toArray⟩] 52) := ⟨_, rfl⟩
    have hsz : W0.heap.size = w.heap.size + 11 := by rw [hW0]; simp only [World.size_alloc]
    have h3 : W0.heap[w.heap.size]? = some (.cells #[.int .u8 0, .string ⟨#[]⟩, .string ⟨#[]⟩, .string ⟨#[]⟩, .int .u8 0, .int .u8 0, .int .i64 0, .int .i64 0, .string ⟨#[]⟩, .bool false, .string ⟨#[]⟩] 26) := by rw [hW0]; exact obj_alloc (obj_alloc (obj_alloc (obj_alloc (obj_alloc (obj_alloc (obj_alloc (obj_alloc (obj_alloc (obj_alloc (heapAt_last rfl))))))))))
    have h4 : W0.heap[w.heap.size + 1]? = some (.cells #[.int .u8 0, .string ⟨#[]⟩, .string ⟨#[]⟩, .string ⟨#[]⟩, .int .u8 0, .int .u8 0, .int .i64 0, .int .i64 0, .string ⟨#[]⟩, .bool false, .string ⟨#[]⟩] 26) := by rw [hW0]; exact obj_alloc (obj_alloc (obj_alloc (obj_alloc (obj_alloc (obj_alloc (obj_alloc (obj_alloc (obj_alloc (heapAt_last (by simp only [World.size_alloc]))))))))))
    have h5 : W0.heap[w.heap.size + 1 + 1]? = some (.cells #[.int .u8 k1, .string ⟨n1.toArray⟩, .slice ap al.length ac, .string ⟨t1.toArray⟩] 39) := by rw [hW0]; exact obj_alloc (obj_alloc (obj_alloc (obj_alloc (obj_alloc (obj_alloc (obj_alloc (obj_alloc (heapAt_last (by simp only [World.size_alloc])))))))))
    have h6 : W0.heap[w.heap.size + 1 + 1 + 1 + 1 + 1 + 1 + 1]? = some (.cells #[.string ⟨#[]⟩, .string ⟨#[99, 114, 101, 97, 116, 101]⟩, .string ⟨#[114, 101, 109, 111, 118, 101]⟩, .string ⟨#[99, 111, 110, 102, 105, 103, 117, 114, 101]⟩, .string ⟨#[115, 117, 98, 115, 99, 114, 105, 98, 101]⟩, .string ⟨#[117, 110, 115, 117, 98, 115, 99, 114, 105, 98, 101]⟩, .string ⟨#[97, 112, 112, 114, 111, 118, 101]⟩, .string ⟨#[100, 101, 110, 121]⟩, .string ⟨#[97, 102, 102, 105, 108, 105, 97, 116, 101]⟩, .string ⟨#[112, 117, 98, 108, 105, 115, 104]⟩, .string ⟨#[114, 101, 116, 114, 97, 99, 116]⟩, .string ⟨#[112, 117, 114, 103, 101]⟩, .string ⟨#[105, 116, 101, 109, 115]⟩, .string ⟨#[97, 115, 115, 111, 99, 105, 97, 116, 101]⟩, .string ⟨#[100, 105, 115, 115, 111, 99, 105, 97, 116, 101]⟩, .string ⟨#[110, 111, 100, 101, 115]⟩] 62) := by rw [hW0]; exact obj_alloc (obj_alloc (obj_alloc (heapAt_last (by simp only [World.size_alloc]))))
    have h7 : W0.heap[w.heap.size + 1 + 1 + 1 + 1 + 1 + 1 + 1 + 1]? = some (.cells #[.string ⟨#[]⟩, .string ⟨#[111, 117, 116, 99, 97, 115, 116]⟩, .string ⟨#[110, 111, 110, 101]⟩, .string ⟨#[109, 101, 109, 98, 101, 114]⟩, .string ⟨#[112, 117, 98, 108, 105, 115, 104, 101, 114]⟩, .string ⟨#[111, 119, 110, 101, 114]⟩] 57) := by rw [hW0]; exact obj_alloc (obj_alloc (heapAt_last (by simp only [World.size_alloc])))
    have h8 : W0.heap[w.heap.size + 1 + 1 + 1 + 1 + 1 + 1 + 1 + 1 + 1]? = some (.cells #[.string ⟨#[111, 112, 101, 110]⟩, .string ⟨#[97, 117, 116, 104, 111, 114, 105, 122, 101]⟩, .string ⟨#[119, 104, 105, 116, 101, 108, 105, 115, 116]⟩] 54) := by rw [hW0]; exact obj_alloc (heapAt_last (by simp only [World.size_alloc]))
    have h9 : W0.heap[w.heap.size + 1 + 1 + 1 + 1 + 1 + 1 + 1 + 1 + 1 + 1]? = some (.cells #[.string ⟨leafW.toArray⟩, .string ⟨collectionW.toArray⟩] 52) := by rw [hW0]; exact heapAt_last (by simp only [World.size_alloc])
    have hB0 : Below w.heap.size w W0 := by
      rw [hW0]
      repeat (first | exact below1 w _ | (refine Below.alloc ?_ ?_ _; rotate_left; (first | (simp only [World.size_alloc]; omega) | exact Nat.le_refl _)))
    rw [← hW0]
    clear hW0 oV oR oC oY c0 c1 c3 b1 b2
    obtain ⟨e4, g4, l4⟩ := obj_cells h4
    obtain ⟨e5, g5, l5⟩ := obj_cells h5
    have hK := verbN_le n1
    have hvi' := hvi.out (w.heap.size + 1 + 1 + 1 + 1 + 1 + 1 + 1)
    replace h3 := Lib.hid h3
    replace h4 := Lib.hid h4
    replace h5 := Lib.hid h5
    replace h7 := Lib.hid h7
    replace h8 := Lib.hid h8
    replace h9 := Lib.hid h9
    replace hB0 := Lib.hid hB0
    have hvc : Hid (∀ c, Calls Tryd.prog 24 #[.slice (some ⟨w.heap.size + 1 + 1 + 1 + 1 + 1 + 1 + 1, 0, none⟩) 16 c, .string ⟨n1.toArray⟩] W0.drew fun e w' => ∃ i : Int, e = .returned (.int .i64 i) ∧ max i 0 = (verbN n1 : Int) ∧ W0.drew = w') := Lib.hid fun c => hvi' c n1 W0.drew h6
    replace h6 := Lib.hid h6
    clear hvi hvi'
    have hwr : IntKind.u8.wrap (verbN n1 : Int) = (verbN n1 : Int) := wrap8 _ (by omega)
    generalize verbN n1 = K at *
    go_cut [37] (fun _ W => Lp w W0 (w.heap.size + 1) (zeroR K) W)
    case first =>
      go_region_law (first
        | (go_simp
           go_at_call 24
           refine (hvc.out _).mono ?_
           rintro e w' ⟨i, rfl, hi, rfl⟩))
      all_goals go_wp2_with fail
      all_goals go_meet
      all_goals exact (⟨h4.out, fun _ _ _ => rfl, Nat.le_refl _, hB0.out.drew⟩ : Lp w W0 (w.heap.size + 1) (zeroR 0) W0.drew).set (by omega) rfl
    case rest =>
      clear hvc h4 e4 g4 l4 e5 g5 l5
      have hLp := hcut
      have hw5 := (hLp.oth _ (by omega) (by omega)).trans h5.out
      obtain ⟨e5, g5, l5⟩ := obj_cells hw5
      clear hw5 hB0 hcut
      replace hLp := Lib.hid hLp
      go_wp2_with fail
      go_loopw [41] (fun s41 wr => ∃ (j : Nat) (x : Rq), j ≤ al.length ∧ s41 = .int .i64 j ∧ Hid (x = readA (zeroR K) (al.take j)) ∧ Hid (Lp w W0 (w.heap.size + 1) x wr)) (fun s41 _ => al.length - (intOf s41).toNat)
      case atStart =>
        exact ⟨0, zeroR K, by omega, rfl, Lib.hid rfl, hLp⟩
      case round =>
        clear hLp e5 g5 l5
        obtain ⟨j, x, hj, rfl, hx, hL⟩ := hrel
        by_cases hlt : j < al.length
        · obtain ⟨ab, ao, rfl, hab, hacell⟩ := hat.out (by omega)
          obtain ⟨a0, a1⟩ := hacell j hlt
          have hst := readA_step (r := zeroR K) hlt
          have hsm := hs1.out.2.2.2 _ (List.getElem_mem hlt)
          rw [← hx.out] at hst
          have hji : (j : Int) < al.length := by omega
          have hsz2 := hL.out.below.size
          have hwr : ab < wr.heap.size := by omega
          replace a0 : wr.cell? ⟨ab, ao + j * 2, none⟩ = _ := ((bat hL.out.below ab hab).1 _).trans a0
          replace a1 : wr.cell? ⟨ab, ao + j * 2 + 1, none⟩ = _ := ((bat hL.out.below ab hab).1 _).trans a1
          obtain ⟨xc, xf, xl⟩ := obj_cells hL.out.obj
          clear hacell
          generalize al[j] = p at a0 a1 hst hsm
          obtain ⟨nm, vl⟩ := p
          simp only at a0 a1 hst hsm
          replace hst := Lib.hid hst
          replace hsm := Lib.hid hsm
          unfold rqC at xc
          have xl1 : w.heap.size + 1 < wr.heap.size + 1 := by omega
          by_cases q0 : nm = nodeW
          · subst q0
            go_wp2_with fail
            exact ⟨⟨j + 1, setR x (nodeW, vl), by omega, by simp, Lib.hid hst.out.symm, Lib.hid ((hL.out.set (i := 1) (by omega) (by rw [set_node]; rfl)).al _)⟩, by simp [intOf]; omega⟩
          have r0 : (nm == [110, 111, 100, 101]) = false := by simpa [nodeW] using q0
          by_cases q1 : nm = itemW
          · subst q1
            go_wp2_with fail
            exact ⟨⟨j + 1, setR x (itemW, vl), by omega, by simp, Lib.hid hst.out.symm, Lib.hid ((hL.out.set (i := 2) (by omega) (by rw [set_item]; rfl)).al _)⟩, by simp [intOf]; omega⟩
          have r1 : (nm == [105, 116, 101, 109]) = false := by simpa [itemW] using q1
          by_cases q2 : nm = jidW
          · subst q2
            go_wp2_with fail
            exact ⟨⟨j + 1, setR x (jidW, vl), by omega, by simp, Lib.hid hst.out.symm, Lib.hid ((hL.out.set (i := 3) (by omega) (by rw [set_jid]; rfl)).al _)⟩, by simp [intOf]; omega⟩
          have r2 : (nm == [106, 105, 100]) = false := by simpa [jidW] using q2
          by_cases q3 : nm = parentW
          · subst q3
            go_wp2_with fail
            exact ⟨⟨j + 1, setR x (parentW, vl), by omega, by simp, Lib.hid hst.out.symm, Lib.hid ((hL.out.set (i := 8) (by omega) (by rw [set_parent]; rfl)).al _)⟩, by simp [intOf]; omega⟩
          have r3 : (nm == [112, 97, 114, 101, 110, 116]) = false := by simpa [parentW] using q3
          by_cases q4 : nm = roleW
          · subst q4
            have tt := (hL.out.oth (w.heap.size + 1 + 1 + 1 + 1 + 1 + 1 + 1 + 1) (by omega) (by omega)).trans h7.out
            have hw8 := wrap8 (roleN vl) (by have := roleN_le vl; omega)
            have hix := Lib.hid (fun c o => hri.out (w.heap.size + 1 + 1 + 1 + 1 + 1 + 1 + 1 + 1) c vl (wr.alloc o) (obj_alloc tt))
            replace tt := Lib.hid tt
            go_wp2_with (go_at_call 24; refine (hix.out _ _).mono ?_; rintro e w2 ⟨iv, rfl, hiv, rfl⟩)
            exact ⟨⟨j + 1, setR x (roleW, vl), by omega, by simp, Lib.hid hst.out.symm, Lib.hid ((hL.out.set (i := 4) (by omega) (by rw [set_role]; rfl)).al _)⟩, by simp [intOf]; omega⟩
          have r4 : (nm == [114, 111, 108, 101]) = false := by simpa [roleW] using q4
          by_cases q5 : nm = accessW
          · subst q5
            have tt := (hL.out.oth (w.heap.size + 1 + 1 + 1 + 1 + 1 + 1 + 1 + 1 + 1) (by omega) (by omega)).trans h8.out
            have hw8 := wrap8 (accN vl) (by have := accN_le vl; omega)
            have hix := Lib.hid (fun c o => hai.out (w.heap.size + 1 + 1 + 1 + 1 + 1 + 1 + 1 + 1 + 1) c vl (wr.alloc o) (obj_alloc tt))
            replace tt := Lib.hid tt
            go_wp2_with (go_at_call 24; refine (hix.out _ _).mono ?_; rintro e w2 ⟨iv, rfl, hiv, rfl⟩)
            exact ⟨⟨j + 1, setR x (accessW, vl), by omega, by simp, Lib.hid hst.out.symm, Lib.hid ((hL.out.set (i := 5) (by omega) (by rw [set_access]; rfl)).al _)⟩, by simp [intOf]; omega⟩
          have r5 : (nm == [97, 99, 99, 101, 115, 115]) = false := by simpa [accessW] using q5
          by_cases q6 : nm = typeW
          · subst q6
            obtain ⟨e9, g9, l9⟩ := obj_cells ((hL.out.oth (w.heap.size + 1 + 1 + 1 + 1 + 1 + 1 + 1 + 1 + 1 + 1) (by omega) (by omega)).trans h9.out)
            have xl9 : w.heap.size + 1 + 1 + 1 + 1 + 1 + 1 + 1 + 1 + 1 + 1 < wr.heap.size + 1 := by omega
            by_cases hv : vl = collectionW
            · subst hv
              go_wp2_with fail
              exact ⟨⟨j + 1, setR x (typeW, collectionW), by omega, by simp, Lib.hid hst.out.symm, Lib.hid ((hL.out.set (i := 9) (by omega) (by rw [set_type]; simp [rqC])).al _)⟩, by simp [intOf]; omega⟩
            · have hv2 : (vl == collectionW) = false := by simpa using hv
              go_wp2_with fail
              exact ⟨⟨j + 1, setR x (typeW, vl), by omega, by simp, Lib.hid hst.out.symm, Lib.hid ((hL.out.set (i := 9) (by omega) (by rw [set_type]; simp [rqC, hv])).al _)⟩, by simp [intOf]; omega⟩
          have r6 : (nm == [116, 121, 112, 101]) = false := by simpa [typeW] using q6
          by_cases q7 : nm = maxW
          · subst q7
            go_wp2_with (go_at_call 25; refine (hno.out vl hsm.out.2 _ (hL.out.al _).below).mono ?_; rintro e w2 ⟨rfl, hb⟩; obtain ⟨hc2, hf2⟩ := bat hb (w.heap.size + 1) (by simp <;> omega); have xl2 : w.heap.size + 1 < w2.heap.size := Nat.lt_of_lt_of_le (by simp <;> omega) hb.size; have hL2 := Lib.hid ((hL.out.al _).call hb); replace hb := Lib.hid hb)
            exact ⟨⟨j + 1, setR x (maxW, vl), by omega, by simp, Lib.hid hst.out.symm, Lib.hid ((hL2.out.set (i := 6) (by omega) (by rw [set_max]; rfl)))⟩, by simp [intOf]; omega⟩
          have r7 : (nm == [109, 97, 120]) = false := by simpa [maxW] using q7
          by_cases q8 : nm = depthW
          · subst q8
            go_wp2_with (go_at_call 25; refine (hno.out vl hsm.out.2 _ (hL.out.al _).below).mono ?_; rintro e w2 ⟨rfl, hb⟩; obtain ⟨hc2, hf2⟩ := bat hb (w.heap.size + 1) (by simp <;> omega); have xl2 : w.heap.size + 1 < w2.heap.size := Nat.lt_of_lt_of_le (by simp <;> omega) hb.size; have hL2 := Lib.hid ((hL.out.al _).call hb); replace hb := Lib.hid hb)
            exact ⟨⟨j + 1, setR x (depthW, vl), by omega, by simp, Lib.hid hst.out.symm, Lib.hid ((hL2.out.set (i := 7) (by omega) (by rw [set_depth]; rfl)))⟩, by simp [intOf]; omega⟩
          have r8 : (nm == [100, 101, 112, 116, 104]) = false := by simpa [depthW] using q8
          replace hst := Lib.hid (hst.out.trans (set_none x nm vl q0 q1 q2 q3 q4 q5 q6 q7 q8))
          go_wp2_with fail
          exact ⟨⟨j + 1, x, by omega, by simp, Lib.hid hst.out.symm, Lib.hid (hL.out.al _)⟩, by simp [intOf]; omega⟩
        · obtain rfl : j = al.length := by omega
          have hx2 := hx.out
          rw [List.take_of_length_le (Nat.le_refl _)] at hx2
          have hsz2 := hL.out.below.size
          have f3' : wr.cell? ⟨b, o + 8 + 3, none⟩ = _ := ((bat hL.out.below b hb).1 _).trans f3
          have hbr : b < wr.heap.size := by omega
          have hRtx : x.tx = [] := by rw [hx2]; exact readA_tx _ _
          have hR4 : N = 4 → R = x := fun h => by
            rw [hr.out, ← hx2, if_neg (by omega)]
            obtain ⟨y1, y2, y3, y4, y5, y6, y7, y8, y9, y10, y11⟩ := x
            simp only at hRtx
            simp only [hRtx]
          have hR5 : N = 5 → (rqC x).setIfInBounds 10 (.string ⟨t2.toArray⟩) = rqC R := fun h => by
            rw [hr.out, ← hx2, if_pos h]
            rfl
          have hRs : R.small := by
            rw [hr.out]
            have h1 := readA_small (zeroR K) al ⟨by simp [zeroR], by simp [zeroR], by simp [zeroR], by simp [zeroR], by simp [zeroR], by simp only [zeroR]; omega⟩ (fun p hp => hs1.out.2.2.2 p hp)
            refine ⟨h1.1, h1.2.1, h1.2.2.1, h1.2.2.2.1, ?_, h1.2.2.2.2.2⟩
            show (if N = 5 then t2 else []).length ≤ _
            split
            · exact hs2.out.2.1
            · simp
          obtain ⟨xc, xf, xl⟩ := obj_cells hL.out.obj
          unfold rqC at xc
          replace hR4 := Lib.hid hR4
          replace hR5 := Lib.hid hR5
          replace hRs := Lib.hid hRs
          clear hx2 hRtx
          go_upto_if 101 with (fail)
          go_cut [104] (fun _ W => Lp w W0 (w.heap.size + 1) R W)
          case first =>
            rcases hN5.out with rfl | rfl
            · have hR4' := Lib.hid (hR4.out rfl)
              go_wp2_with fail
              go_meet
              exact hR4'.out ▸ hL.out
            · have hR5' := Lib.hid (hR5.out rfl)
              go_wp2_with fail
              go_meet
              exact hL.out.set (i := 10) (by omega) hR5'.out
          case rest =>
            clear xc xf xl f3' hbr hL hsz2
            have hL := hcut
            clear hcut
            obtain ⟨xc, xf, xl⟩ := obj_cells hL.obj
            unfold rqC at xc
            have h3c := (hL.oth w.heap.size (by omega) (by omega)).trans h3.out
            obtain ⟨yc, yf, yl⟩ := obj_cells h3c
            have hEn2 := hEn.out R hRs.out wc hL.below
            have hTc := hTk.out.below hL.below
            have hbl := hL.below
            have hob := hL.obj
            unfold rqV at hEn2
            replace hEn2 := Lib.hid hEn2
            replace hTc := Lib.hid hTc
            replace hbl := Lib.hid hbl
            replace hL := Lib.hid hL
            replace h3c := Lib.hid h3c
            clear hob
            cases hrr : rightR R
            · rw [hrr] at hEn2
              replace hrr := Lib.hid hrr
              go_wp2_with (go_at_call 7; refine hEn2.out.mono ?_; rintro e w2 ⟨v2, rfl, hv2, hb2⟩; obtain ⟨hc2, hf2⟩ := bat hb2 w.heap.size yl; replace hv2 := Lib.hid hv2; replace hb2 := Lib.hid hb2)
              refine bodyPost_ret (v := .tuple #[.agg #[.int .u8 0, .string ⟨#[]⟩, .string ⟨#[]⟩, .string ⟨#[]⟩, .int .u8 0, .int .u8 0, .int .i64 0, .int .i64 0, .string ⟨#[]⟩, .bool false, .string ⟨#[]⟩], .int .i64 3]) (by simp [results, Tryd.results10, go_sem, hc2, yc]) rfl ⟨by rw [← hans.out, hrr.out]; rfl, ?_⟩
              have hbase := belowT hbl.out hb2.out
              repeat (first | with_reducible exact hbase | (with_reducible refine Below.setCell ?_ ?_ _; rotate_left; exact Nat.le_refl _))
            · have henc : encR R = toksR R := by unfold encR; rw [hrr]; rfl
              rw [hrr, henc] at hEn2
              replace hrr := Lib.hid hrr
              clear henc
              have hS2 : Hid (∀ v1 W, TkS W v1 (toksR R) → TkS W (.slice (some ⟨b, o, none⟩) N vc) l → Calls Tryd.prog 26 #[v1, .slice (some ⟨b, o, none⟩) N vc] W fun e w' => e = .returned (.bool q) ∧ Below W.heap.size W w') := Lib.hid fun v1 W h1 h2 => by rw [← hq.out]; exact hS.out v1 _ W h1 h2
              clear hS
              cases q
              · go_wp2_with (first
                  | (go_at_call 26; have m0 := hb2; refine (hS2.out _ _ hv2.out hTc2.out).mono ?_; rintro e w3 ⟨rfl, hb3⟩; obtain ⟨hc3, hf3⟩ := bat hb3 w.heap.size yl2; replace hb3 := Lib.hid hb3)
                  | (go_at_call 7; refine hEn2.out.mono ?_; rintro e w2 ⟨v2, rfl, hv2, hb2⟩; obtain ⟨hc2, hf2⟩ := bat hb2 w.heap.size yl; have yl2 := Nat.lt_of_lt_of_le yl hb2.size; have hTc2 := Lib.hid (hTc.out.below hb2); replace hv2 := Lib.hid hv2; replace hb2 := Lib.hid hb2))
                refine bodyPost_ret (v := .tuple #[.agg #[.int .u8 0, .string ⟨#[]⟩, .string ⟨#[]⟩, .string ⟨#[]⟩, .int .u8 0, .int .u8 0, .int .i64 0, .int .i64 0, .string ⟨#[]⟩, .bool false, .string ⟨#[]⟩], .int .i64 3]) (by simp [results, Tryd.results10, go_sem, hc3, hc2, yc]) rfl ⟨by rw [← hans.out, hrr.out]; rfl, ?_⟩
                have hbase := belowT (belowT hbl.out hb2.out) hb3.out
                repeat (first | with_reducible exact hbase | (with_reducible refine Below.setCell ?_ ?_ _; rotate_left; exact Nat.le_refl _))
              · go_wp2_with (first
                  | (go_at_call 26; have m0 := hb2; refine (hS2.out _ _ hv2.out hTc2.out).mono ?_; rintro e w3 ⟨rfl, hb3⟩; obtain ⟨hc3, hf3⟩ := bat hb3 w.heap.size yl2; obtain ⟨hd3, hg3⟩ := bat hb3 (w.heap.size + 1) xl2; have xl3 := Nat.lt_of_lt_of_le xl2 hb3.size; replace hb3 := Lib.hid hb3)
                  | (go_at_call 7; refine hEn2.out.mono ?_; rintro e w2 ⟨v2, rfl, hv2, hb2⟩; obtain ⟨hc2, hf2⟩ := bat hb2 w.heap.size yl; obtain ⟨hd2, hg2⟩ := bat hb2 (w.heap.size + 1) xl; have yl2 := Nat.lt_of_lt_of_le yl hb2.size; have xl2 := Nat.lt_of_lt_of_le xl hb2.size; have hTc2 := Lib.hid (hTc.out.below hb2); replace hv2 := Lib.hid hv2; replace hb2 := Lib.hid hb2))
                refine bodyPost_ret (v := .tuple #[rqV R, .int .i64 0]) (by simp [results, Tryd.results10, go_sem, rqV, hc3, hc2, hd3, hd2, yc, xc]) rfl ⟨by rw [← hans.out, hrr.out]; rfl, ?_⟩
                have hbase := belowT (belowT hbl.out hb2.out) hb3.out
                repeat (first | with_reducible exact hbase | (with_reducible refine Below.setCell ?_ ?_ _; rotate_left; exact Nat.le_refl _))
end Go.Proofs.YtmapinediglimaaDoor
