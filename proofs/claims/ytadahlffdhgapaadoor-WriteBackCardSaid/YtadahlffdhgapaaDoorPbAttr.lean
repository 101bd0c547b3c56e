/-
  The attributes of a printed tag are read back (heliographref03.attributes). Conditions: right names and values, at most eight.
-/
import Derived.Test.YtadahlffdhgapaaDoorPbUne
import Derived.Test.YtadahlffdhgapaaDoorWrElem3
namespace Go.Proofs.YtadahlffdhgapaaDoor
set_option linter.unusedVariables false
set_option linter.unusedSimpArgs false
open Go.RowKit Go.MapKept
attribute [local go_sem] mk_get ext0 extE
theorem head_app {f : UInt8 → Bool} {a : List UInt8} {c : UInt8} {r : List UInt8} (h : ∀ b ∈ a, f b = true) (hc : f c = false) : headN f (a ++ c :: r) = a.length := by
  unfold headN
  induction a with
  | nil => simp [hc]
  | cons x a ih =>
    rw [List.cons_append, List.takeWhile_cons, if_pos (h x (by simp)), List.length_cons, ih fun b hb => h b (by simp [hb])]
    rfl
theorem head_0 {f : UInt8 → Bool} {c : UInt8} {r : List UInt8} (hc : f c = false) : headN f (c :: r) = 0 := head_app (a := []) (by simp) hc
theorem nameC_bl {c : UInt8} (h : nameC c = true) : blC c = false := by
  have := nameC_ne h
  unfold blC
  rw [decide_eq_false_iff_not]
  rintro (e | e | e | e) <;> subst e <;> revert h <;> decide
def aC (c p : List UInt8) : List Value := [.string ⟨c.toArray⟩, .string ⟨p.toArray⟩]
theorem aC_one (c p : List UInt8) : ∀ v ∈ aC c p, v.oneCell' = true := by intro v hv; simp [aC] at hv; rcases hv with rfl | rfl <;> rfl
theorem aC_cells {w : World} {vb : Nat} {c p : List UInt8} (hv : w.heap[vb]? = some (.cells #[.string ⟨c.toArray⟩, .string ⟨p.toArray⟩] 49)) : ∀ j u, (aC c p)[j]? = some u → w.cell? ⟨vb, 0 + j, none⟩ = some u := by
  intro j u hu
  rw [Nat.zero_add, (obj_cells hv).1 j]
  simpa [aC] using hu
theorem atCells_snoc (al : Ats) (p : List UInt8 × List UInt8) : atCells (al ++ [p]) = atCells al ++ aC p.1 p.2 := by simp [atCells, aC]
theorem esc_len_le (v : List UInt8) (h : fitsP v = true) : (escL v).length ≤ 3072 := by
  have := fitsP_len h
  have := escL_len v
  omega
theorem atsL_len : ∀ {al : Ats}, (∀ p ∈ al, nameP p.1 = true ∧ fitsP p.2 = true) → (atsL al).length ≤ 4000 * al.length
  | [], _ => by simp [atsL]
  | p :: r, h => by
    have e : atsL (p :: r) = atP p ++ atsL r := by unfold atsL; rw [List.flatMap_cons]
    have ih := atsL_len (al := r) fun q hq => h q (by simp [hq])
    have h1 := esc_len_le p.2 (h p (by simp)).2
    have h2 := nameP_len (h p (by simp)).1
    rw [e, List.length_append, List.length_cons]
    simp only [atP, List.length_append, List.length_cons, List.length_nil]
    omega
set_option maxRecDepth 100000 in
set_option maxHeartbeats 1000000 in
theorem refAttributes_any (al : Ats) (w : World) (hg : ∀ p ∈ al, nameP p.1 = true ∧ fitsP p.2 = true) (h8 : al.length ≤ 8) :
    Calls Tryd.prog 51 #[.string ⟨(atsL al).toArray⟩] w fun e w' => ∃ sv, e = .returned (.tuple #[sv, .bool true]) ∧ w'.ownsRow w.heap.size 49 2 sv al.length (atCells al) ∧ Below w.heap.size w w' := by
  obtain ⟨i0, hi, hz0, hz1, hz2⟩ := info_parts infoA
  have hfull := Lib.hid (show atsL al = atsL (al.drop 0) by rfl)
  have hlong := Lib.hid (fun j => (by
    have := atsL_len (al := al.drop j) fun q hq => hg q (List.mem_of_mem_drop hq)
    rw [List.length_drop] at this
    omega : (atsL (al.drop j)).length ≤ 32000))
  replace hg := Lib.hid hg
  go_enter Tryd.func51, Tryd.ntmps51
  go_wp2
  go_loopw [0, 4] (fun s0 s4 wr => ∃ j : Nat, j ≤ al.length ∧ s0 = .string ⟨(atsL (al.drop j)).toArray⟩ ∧ Hid (wr.ownsRow w.heap.size 49 2 s4 (al.take j).length (atCells (al.take j))) ∧ Hid (Below w.heap.size w wr)) (fun s0 _ _ => match s0 with | .string s => s.size | _ => 0)
  case atStart => exact ⟨0, Nat.zero_le _, rfl, Lib.hid (World.ownsRow_nil _ _ _ _), Lib.hid (Below.refl _ _)⟩
  case round =>
    obtain ⟨j, hj, rfl, hO, hB⟩ := hrel
    obtain ⟨na, nc, rfl⟩ := owns_val hO.out
    have hsz := Lib.hid hB.out.size
    have hl0 := hlong.out j
    by_cases hlt : j < al.length
    · have hgj := hg.out al[j] (List.getElem_mem hlt)
      have hsnA := Lib.hid (show atCells (al.take (j + 1)) = atCells (al.take j) ++ aC al[j].1 al[j].2 by rw [List.take_succ_eq_append_getElem hlt, atCells_snoc])
      have htl : (al.take j).length = j := by rw [List.length_take]; omega
      have htl1 := Lib.hid (show (al.take (j + 1)).length = j + 1 by rw [List.length_take]; omega)
      have hd : atsL (al.drop j) = 32 :: (al[j].1 ++ 61 :: 39 :: (escL al[j].2 ++ 39 :: atsL (al.drop (j + 1)))) := by
        rw [List.drop_eq_getElem_cons hlt]
        unfold atsL
        rw [List.flatMap_cons]
        simp [atP]
      have hlR := hlong.out (j + 1)
      generalize al[j] = p at hgj hsnA hd
      obtain ⟨n, v⟩ := p
      simp only at hgj hsnA hd
      generalize hR : atsL (al.drop (j + 1)) = R at hd hlR
      replace hR := Lib.hid hR
      generalize atsL (al.drop j) = L0 at hd hl0
      have hev := esc_len_le v hgj.2
      have hnl := nameP_len hgj.1
      obtain ⟨hnn, -, -⟩ := name_bytes hgj.1
      have hna := name_all hgj.1
      have hn0 : 0 < n.length := List.length_pos_iff.2 hnn
      have hno := escL_no v
      obtain ⟨E, hE⟩ : ∃ E, E = (escL v).length := ⟨_, rfl⟩
      have hU := Lib.hid (fun W => refUnescape_any v W (by omega))
      have hNm : Hid (∀ W, Calls Tryd.prog 35 #[.string ⟨n.toArray⟩] W fun e w' => e = .returned (.bool true) ∧ W = w') := Lib.hid fun W => by have := refName_any n W (by omega); rwa [hgj.1] at this
      generalize hS3 : (39 :: (escL v ++ 39 :: R) : List UInt8) = S3 at hd
      generalize hS2 : (61 :: S3 : List UInt8) = S2 at hd
      generalize hS1 : n ++ S2 = S1 at hd
      have l3 : S3.length = E + R.length + 2 := by rw [← hS3, hE]; simp; omega
      have l2 : S2.length = S3.length + 1 := by rw [← hS2]; rfl
      have l1 : S1.length = n.length + S2.length := by rw [← hS1]; simp
      have l0 : L0.length = S1.length + 1 := by rw [hd]; rfl
      have b0 : Hid (∀ W, Calls Tryd.prog 45 #[.string ⟨L0.toArray⟩] W fun e w' => e = .returned (.int .i64 1) ∧ W = w') := Lib.hid fun W => by
        have := blanks_any L0 W (by omega)
        rw [hd, ← hS1] at this
        cases n with
        | nil => exact absurd rfl hnn
        | cons c n =>
          rw [show headN blC (32 :: ((c :: n) ++ S2)) = 1 from head_app (a := [32]) (c := c) (r := n ++ S2) (by decide) (nameC_bl (hna c (by simp)))] at this
          rw [hd, ← hS1]; exact this
      have b2 : Hid (∀ W, Calls Tryd.prog 45 #[.string ⟨S2.toArray⟩] W fun e w' => e = .returned (.int .i64 0) ∧ W = w') := Lib.hid fun W => by
        have := blanks_any S2 W (by omega)
        rwa [show headN blC S2 = 0 by rw [← hS2]; exact head_0 (by decide)] at this
      have b3 : Hid (∀ W, Calls Tryd.prog 45 #[.string ⟨S3.toArray⟩] W fun e w' => e = .returned (.int .i64 0) ∧ W = w') := Lib.hid fun W => by
        have := blanks_any S3 W (by omega)
        rwa [show headN blC S3 = 0 by rw [← hS3]; exact head_0 (by decide)] at this
      have n1 : Hid (∀ W, Calls Tryd.prog 50 #[.string ⟨S1.toArray⟩] W fun e w' => e = .returned (.int .i64 (n.length : Nat)) ∧ W = w') := Lib.hid fun W => by
        have := refHead_any S1 W (by omega)
        rwa [show headN nameC S1 = n.length by rw [← hS1, ← hS2]; exact head_app hna (by decide)] at this
      have d0 : L0.drop 1 = S1 := by rw [hd]; rfl
      have d1 : S1.drop n.length = S2 := by rw [← hS1, List.drop_left]
      have t1 : S1.take n.length = n := by rw [← hS1, List.take_left]
      have d2 : S2.drop 1 = S3 := by rw [← hS2]; rfl
      have pb2 : 0 < S2.length := by omega
      have pb3 : 0 < S3.length := by omega
      have pbE : E + 1 < S3.length := by omega
      have c2 : S2[0]'pb2 = 61 := by simp only [← hS2]; rfl
      have c3 : S3[0]'pb3 = 39 := by simp only [← hS3]; rfl
      have x3 : (ByteArray.mk S3.toArray).extract 1 (E + 1) = ⟨(escL v).toArray⟩ := by
        rw [Nat.add_comm, ext_pre S3 1 _ (by omega), ← hS3]
        show (ByteArray.mk ((escL v ++ 39 :: R).take _).toArray) = _
        rw [hE, List.take_left]
      have d3 : S3.drop (E + 1 + 1) = R := by
        rw [← hS3, hE, List.drop_succ_cons]
        show (escL v ++ ([39] ++ R)).drop _ = R
        rw [← List.append_assoc, show (escL v).length + 1 = (escL v ++ [39]).length by simp, List.drop_left]
      have cm : Hid (∀ m (h : m < S3.length), 1 ≤ m → m ≤ E → ((((S3[m]'h).toNat : Nat) : Int) != 39) = true) := Lib.hid fun m h hm1 hm2 => by
        have e : S3[m]'h = (escL v)[m - 1]'(by omega) := by
          obtain ⟨m', rfl⟩ : ∃ m', m = m' + 1 := ⟨m - 1, by omega⟩
          simp only [← hS3, List.getElem_cons_succ]
          rw [List.getElem_append_left (by omega)]
          rfl
        have := (hno _ (List.getElem_mem (by omega : m - 1 < (escL v).length))).2.2.1
        rw [← e] at this
        simp
        intro e'
        exact this (UInt8.toNat_inj.1 (by exact_mod_cast e'))
      have ce : S3[E + 1]'pbE = 39 := by
        simp only [← hS3, hE, List.getElem_cons_succ]
        rw [List.getElem_append_right (by omega)]
        simp
      have c2' : ((S2[0].toNat : Int) != 61) = false := by rw [c2]; rfl
      have c3' : ((S3[0].toNat : Int) != 39) = false := by rw [c3]; rfl
      have ce' : ((S3[E + 1].toNat : Int) != 39) = false := by rw [ce]; rfl
      have c3n : (S3[0].toNat : Int) = 39 := by rw [c3]; rfl
      replace hS1 := Lib.hid hS1
      replace hS2 := Lib.hid hS2
      replace hS3 := Lib.hid hS3
      replace hd := Lib.hid hd
      replace hgj := Lib.hid hgj
      replace hna := Lib.hid hna
      replace hno := Lib.hid hno
      replace c2 := Lib.hid c2
      replace c3 := Lib.hid c3
      replace ce := Lib.hid ce
      replace hnn := Lib.hid hnn
      have hO1 : Hid (wr.ownsRow w.heap.size 49 2 (.slice na j nc) j (atCells (al.take j))) := by
        rw [htl] at hO; exact hO
      rw [htl]
      replace htl := Lib.hid htl
      clear hO
      rw [← hE] at hev
      replace hE := Lib.hid hE
      have h01 : (0 : Int) ≤ (E : Int) + 1 := by omega
      have h02 : (1 : Int) ≤ (E : Int) + 1 := by omega
      have h03 : ((E : Int) + 1).toNat = E + 1 := by omega
      have h04 : (E : Int) + 1 ≤ (S3.length : Int) := by omega
      have h05 : (0 : Int) ≤ (E : Int) + 1 + 1 := by omega
      have h06 : ((E : Int) + 1 + 1).toNat = E + 1 + 1 := by omega
      have h07 : (E : Int) + 1 + 1 ≤ (S3.length : Int) := by omega
      have g0 : ((1 : Int) == (L0.length : Int)) = false := by rw [beq_eq_false_iff_ne]; omega
      have p0 : (1 : Int) ≤ (L0.length : Int) := by omega
      have p1 : (n.length : Int) ≤ (S1.length : Int) := by omega
      have p2 : (1 : Int) ≤ (S2.length : Int) := by omega
      have p3 : (1 : Int) ≤ (S3.length : Int) := by omega
      have q2 : S2.isEmpty = false := by cases S2 with | nil => exact absurd p2 (by decide) | cons _ _ => rfl
      have q3 : S3.isEmpty = false := by cases S3 with | nil => exact absurd p3 (by decide) | cons _ _ => rfl
      replace l0 := Lib.hid l0
      replace l1 := Lib.hid l1
      replace l2 := Lib.hid l2
      replace l3 := Lib.hid l3
      go_wp2_with (first
        | (go_at_call 45
           first
             | ((with_reducible refine (b0.out _).mono ?_); rintro e w1 ⟨rfl, rfl⟩)
             | ((with_reducible refine (b2.out _).mono ?_); rintro e w1 ⟨rfl, rfl⟩)
             | ((with_reducible refine (b3.out _).mono ?_); rintro e w1 ⟨rfl, rfl⟩))
        | (go_at_call 50; refine (n1.out _).mono ?_; rintro e w1 ⟨rfl, rfl⟩)
        | (go_at_call 35; refine (hNm.out _).mono ?_; rintro e w1 ⟨rfl, rfl⟩))
      go_loop [9] (fun s9 => ∃ m : Nat, 1 ≤ m ∧ m ≤ E + 1 ∧ s9 = .int .i64 m) (fun s9 => E + 1 - (intOf s9).toNat)
      case atStart => exact ⟨1, by omega, by omega, rfl⟩
      case round =>
        obtain ⟨m, hm1, hm2, rfl⟩ := hrel
        have hmS : m < S3.length := by omega
        by_cases hmE : m < E + 1
        · have cmm := cm.out m hmS hm1 (by omega)
          go_wp2
          go_round
          case rel => exact ⟨m + 1, by omega, by omega, by go_num⟩
          case measure => simp [intOf]; omega
        · obtain rfl : m = E + 1 := by omega
          have gE : (((E : Int) + 1) == (S3.length : Int)) = false := by rw [beq_eq_false_iff_ne]; omega
          have hBU := Lib.hid ((hB.out).alloc (hB.out.size) entRow)
          have hOU := Lib.hid ((hO1.out.alloc entRow).alloc (.cells #[.string ⟨n.toArray⟩, .string ⟨v.toArray⟩] 49))
          have hnew : Hid (((wr.alloc entRow).alloc (.cells #[.string ⟨n.toArray⟩, .string ⟨v.toArray⟩] 49)).heap[wr.heap.size + 1]? = some (.cells #[.string ⟨n.toArray⟩, .string ⟨v.toArray⟩] 49)) := Lib.hid (by have := (heap_alloc (wr.alloc entRow) (.cells #[.string ⟨n.toArray⟩, .string ⟨v.toArray⟩] 49)).1; rwa [World.size_alloc] at this)
          go_wp2_with (first
            | (go_at_call 43; refine (hU.out _).mono ?_; rintro e w1 ⟨rfl, rfl⟩)
            | (at_builtin; refine wpList_append_own _ rfl _ _ 40 rfl w.heap.size 49 i0 _ 2 32 Tryd.underlying40 hi hz0 hz1 hz2 rfl (by decide) _ _ _ rfl hOU.out ⟨wr.heap.size + 1, 0, none⟩ 1 1 (aC n v) rfl rfl (fun j u h => by rw [Addr.add_lit]; exact aC_cells hnew.out j u h) (aC_one _ _) (by unfold maxLen; omega) (by omega) (by have := hsz.out; simp only [World.size_alloc]; omega) ?_
               intro v5 w5 hO5 hg5 _
               have hb5 := (belowA hBU.out (.cells #[.string ⟨n.toArray⟩, .string ⟨v.toArray⟩] 49)).grown hg5 (by have := hsz.out; simp only [World.size_alloc]; omega) (fun k hk => (hOU.out.lt k hk).1)
               obtain ⟨m15, m25, rfl⟩ := owns_val hO5
               replace hO5 := Lib.hid hO5
               replace hb5 := Lib.hid hb5))
          go_roundw
          case rel =>
            refine ⟨j + 1, by omega, by rw [hR.out], ?_, hb5⟩
            refine Lib.hid ?_
            rw [htl1.out, hsnA.out]
            exact hO5.out
          case measure =>
            show R.length < L0.length
            have := l0.out; have := l1.out; have := l2.out; have := l3.out; omega
    · have e4 : al.take j = al := List.take_of_length_le (by omega)
      rw [e4] at hO
      have e5 : atsL (al.drop j) = [] := by rw [List.drop_of_length_le (by omega)]; rfl
      rw [e5, e4]
      have hX := Lib.hid hO.out
      have b0 : Hid (∀ W, Calls Tryd.prog 45 #[.string ⟨#[]⟩] W fun e w' => e = .returned (.int .i64 0) ∧ W = w') := Lib.hid fun W => blanks_any [] W (by simp)
      clear hl0 hlong hO e4
      go_wp2_with (go_at_call 45; refine (b0.out _).mono ?_; rintro e w1 ⟨rfl, rfl⟩)
      go_ret2
      exact ⟨_, rfl, hX.out, hB.out⟩
end Go.Proofs.YtadahlffdhgapaaDoor
