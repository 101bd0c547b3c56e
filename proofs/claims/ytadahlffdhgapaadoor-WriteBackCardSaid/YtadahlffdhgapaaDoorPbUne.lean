/-
  A text with entities is read back (heliographref02.Unescape). Condition: the text shorter than the reach.
-/
import Derived.Test.YtadahlffdhgapaaDoorPbLex
namespace Go.Proofs.YtadahlffdhgapaaDoor
set_option linter.unusedVariables false
set_option linter.unusedSimpArgs false
open Go.RowKit Go.MapKept
attribute [local go_sem] mk_get
def entC : Nat → UInt8
  | 0 => 38
  | 1 => 60
  | 2 => 62
  | 3 => 39
  | _ => 34
def entL : Nat → List UInt8
  | 0 => [38, 97, 109, 112, 59]
  | 1 => [38, 108, 116, 59]
  | 2 => [38, 103, 116, 59]
  | 3 => [38, 97, 112, 111, 115, 59]
  | _ => [38, 113, 117, 111, 116, 59]
theorem ent_is : ∀ k, k < 5 → esc1 (entC k) = entL k := by decide
theorem ent_pre (c : UInt8) (h : ∃ k, k < 5 ∧ c = entC k) (k : Nat) (hk : k < 5) (hne : c ≠ entC k) (r : List UInt8) : preP (esc1 c ++ r) (entL k) = false := by
  obtain ⟨m, hm, rfl⟩ := h
  rw [ent_is m hm]
  obtain rfl | rfl | rfl | rfl | rfl : m = 0 ∨ m = 1 ∨ m = 2 ∨ m = 3 ∨ m = 4 := by omega
  all_goals
    obtain rfl | rfl | rfl | rfl | rfl : k = 0 ∨ k = 1 ∨ k = 2 ∨ k = 3 ∨ k = 4 := by omega
    all_goals first | exact absurd rfl hne | simp [preP, entL]
theorem ext_pre (s : List UInt8) (i n : Nat) (h : i + n ≤ s.length) : (ByteArray.mk s.toArray).extract i (i + n) = ⟨((s.drop i).take n).toArray⟩ := by
  rw [ByteArray.extract_mk]
  congr 1
  simp
theorem esc_not (c : UInt8) : (∃ k, k < 5 ∧ c = entC k) ∨ (esc1 c = [c] ∧ c ≠ 38 ∧ c ≠ 60) := by
  by_cases h1 : c = 38
  · exact .inl ⟨0, by omega, h1⟩
  by_cases h2 : c = 60
  · exact .inl ⟨1, by omega, h2⟩
  by_cases h3 : c = 62
  · exact .inl ⟨2, by omega, h3⟩
  by_cases h4 : c = 39
  · exact .inl ⟨3, by omega, h4⟩
  by_cases h5 : c = 34
  · exact .inl ⟨4, by omega, h5⟩
  exact .inr ⟨by simp [esc1, h1, h2, h3, h4, h5], h1, h2⟩
theorem escL_split (t : List UInt8) (j : Nat) (h : j < t.length) : (escL t).drop (escL (t.take j)).length = esc1 (t[j]'h) ++ escL (t.drop (j + 1)) := by
  have e : escL t = escL (t.take j) ++ (esc1 (t[j]'h) ++ escL (t.drop (j + 1))) := by
    conv => lhs; rw [← List.take_append_drop j t, List.drop_eq_getElem_cons h]
    rw [escL_app]
    congr 1
  conv => lhs; rw [e]
  rw [List.drop_left]
abbrev entRow : Obj := .cells #[.string ⟨#[38]⟩, .string ⟨#[38, 97, 109, 112, 59]⟩, .string ⟨#[60]⟩, .string ⟨#[38, 108, 116, 59]⟩, .string ⟨#[62]⟩, .string ⟨#[38, 103, 116, 59]⟩, .string ⟨#[39]⟩, .string ⟨#[38, 97, 112, 111, 115, 59]⟩, .string ⟨#[34]⟩, .string ⟨#[38, 113, 117, 111, 116, 59]⟩] 69
theorem refEntities_any (w : World) : Calls Tryd.prog 31 #[] w fun e w' => e = .returned (.slice (some ⟨w.heap.size, 0, none⟩) 5 5) ∧ w' = w.alloc entRow := by
  go_enter Tryd.func31, Tryd.ntmps31
  go_wp2
  go_ret
  exact ⟨rfl, rfl⟩
set_option maxRecDepth 100000 in
set_option maxHeartbeats 8000000 in
theorem refUnescape_any (t : List UInt8) (w : World) (hs : (escL t).length ≤ 140737488351232) :
    Calls Tryd.prog 43 #[.string ⟨(escL t).toArray⟩] w fun e w' => e = .returned (.tuple #[.string ⟨t.toArray⟩, .int .i64 0]) ∧ w' = w.alloc entRow := by
  have hsp := Lib.hid (fun j h => escL_split t j h)
  have hsn := Lib.hid (fun j h => escL_snoc t j h)
  have hlen := Lib.hid (fun j (h : j ≤ t.length) => (by
    have := congrArg List.length (List.take_append_drop j t)
    have e := escL_app (t.take j) (t.drop j)
    rw [List.take_append_drop] at e
    have := congrArg List.length e
    rw [List.length_append] at this
    omega : (escL (t.take j)).length ≤ (escL t).length))
  have htl : t.length ≤ (escL t).length := by
    unfold escL
    rw [List.length_flatMap]
    clear hsp hsn hlen hs
    induction t with
    | nil => simp
    | cons c t ih =>
      have h1 : 1 ≤ (esc1 c).length := by
        unfold esc1
        repeat (split; · decide)
        simp
      simp only [List.map_cons, List.sum_cons, List.length_cons]
      omega
  have hfull := Lib.hid (show escL (t.take t.length) = escL t by rw [List.take_length])
  generalize escL t = s at hs hsp hlen htl hfull ⊢
  go_enter Tryd.func43, Tryd.ntmps43
  go_wp2_with (go_at_call 31; refine (refEntities_any _).mono ?_; rintro e w1 ⟨rfl, rfl⟩)
  go_loop [4, 6] (fun s4 s6 => ∃ j : Nat, j ≤ t.length ∧ s6 = .int .i64 ((escL (t.take j)).length : Nat) ∧ s4 = .string ⟨(t.take j).toArray⟩) (fun _ s6 => s.length - (intOf s6).toNat)
  case atStart => exact ⟨0, Nat.zero_le _, rfl, rfl⟩
  case round =>
    obtain ⟨j, hj, rfl, rfl⟩ := hrel
    by_cases hlt : j < t.length
    · have hd := hsp.out j hlt
      have hi2 := Lib.hid (show (escL (t.take (j + 1))).length = (escL (t.take j)).length + (esc1 t[j]).length by rw [hsn.out j hlt, List.length_append])
      have hil := hlen.out j hj
      have htk := Lib.hid (show t.take (j + 1) = t.take j ++ [t[j]] by rw [List.take_succ_eq_append_getElem hlt])
      have hjl : (t.take j).length ≤ s.length := by rw [List.length_take]; omega
      generalize hie : (escL (t.take j)).length = i at hd hi2 hil
      replace hie := Lib.hid hie
      generalize t[j] = c at hd hi2 htk
      generalize escL (t.drop (j + 1)) = post at hd
      have h1 : 1 ≤ (esc1 c).length := by
        unfold esc1
        repeat (split; · decide)
        simp
      have hls : i + (esc1 c).length ≤ s.length := by
        have := congrArg List.length hd
        simp only [List.length_drop, List.length_append] at this
        omega
      have hlt2 : i < s.length := by omega
      have hsi : s[i]'hlt2 = (esc1 c)[0]'h1 := by
        have e : s[i]'hlt2 = (s.drop i)[0]'(by rw [List.length_drop]; omega) := by simp
        rw [e]; simp only [hd]; rw [List.getElem_append_left h1]
      have hlt3 : (i : Int) < (s.length : Int) := by omega
      rcases esc_not c with hsp | ⟨hp1, hp2, hp3⟩
      · have hhit : ∀ k, k < 5 → c = entC k → i + (entL k).length ≤ s.length ∧ (ByteArray.mk s.toArray).extract i (i + (entL k).length) = ⟨(entL k).toArray⟩ := fun k hk he => by
          rw [he, ent_is k hk] at hls hd
          refine ⟨hls, ?_⟩
          rw [ext_pre s i _ hls, hd, List.take_left]
        have hmis : ∀ k, k < 5 → ¬ c = entC k → (¬ i + (entL k).length ≤ s.length) ∨ (i + (entL k).length ≤ s.length ∧ ∃ xs : List UInt8, (ByteArray.mk s.toArray).extract i (i + (entL k).length) = ⟨xs.toArray⟩ ∧ (xs == entL k) = false) := fun k hk he => by
          by_cases hg : i + (entL k).length ≤ s.length
          · refine .inr ⟨hg, (s.drop i).take (entL k).length, ext_pre s i _ hg, ?_⟩
            have := ent_pre c hsp k hk he post
            rw [← hd] at this
            unfold preP at this
            rwa [decide_eq_true (by rw [List.length_drop]; omega), Bool.true_and] at this
          · exact .inl hg
        have h38 : s[i]'hlt2 = 38 := by
          obtain ⟨k, hk, rfl⟩ := hsp
          rw [hsi]
          obtain rfl | rfl | rfl | rfl | rfl : k = 0 ∨ k = 1 ∨ k = 2 ∨ k = 3 ∨ k = 4 := by omega
          all_goals rfl
        replace hd := Lib.hid hd
        have g1 : ((s[i].toNat : Int) == 60) = false := by rw [h38]; rfl
        have g2 : ((s[i].toNat : Int) != 38) = false := by rw [h38]; rfl
        replace h38 := Lib.hid h38
        clear hsi
        obtain ⟨xc, xf, xl⟩ := obj_cells (heap_alloc w entRow).1
        have hlast : Hid (∀ k, 5 ≤ k → (∀ m, m < k → ¬ c = entC m) → False) := Lib.hid fun k hk h => by
          obtain ⟨m, hm, e⟩ := hsp
          exact h m (by omega) e
        replace hsp := Lib.hid hsp
        go_wp2_with fail
        go_loop [4, 6, 7, 8] (fun s4 s6 s7 s8 => ∃ k : Nat, k ≤ 5 ∧ s8 = .int .i64 k ∧ ((s7 = .bool false ∧ s6 = .int .i64 i ∧ s4 = .string ⟨(t.take j).toArray⟩ ∧ Hid (∀ m, m < k → ¬ c = entC m)) ∨ (s7 = .bool true ∧ s6 = .int .i64 ((escL (t.take (j + 1))).length : Nat) ∧ s4 = .string ⟨(t.take (j + 1)).toArray⟩))) (fun _ _ s7 s8 => 5 - (intOf s8).toNat)
        case atStart => exact ⟨0, by omega, rfl, .inl ⟨rfl, rfl, rfl, Lib.hid fun m h => absurd h (by omega)⟩⟩
        case round =>
          obtain ⟨k, hk, rfl, ⟨rfl, rfl, rfl, hno⟩ | ⟨rfl, rfl, rfl⟩⟩ := hrel
          · obtain rfl | rfl | rfl | rfl | rfl | rfl : k = 0 ∨ k = 1 ∨ k = 2 ∨ k = 3 ∨ k = 4 ∨ k = 5 := by omega
            · have f1 : (w.alloc entRow).cell? ⟨w.heap.size, 1, none⟩ = some (.string ⟨#[38, 97, 109, 112, 59]⟩) := (xc _).trans rfl
              have f0 : (w.alloc entRow).cell? ⟨w.heap.size, 0, none⟩ = some (.string ⟨#[38]⟩) := (xc _).trans rfl
              have h0 : (0 : Int) ≤ (i : Int) := by omega
              have h01 : (i : Int) ≤ (i : Int) + 5 := by omega
              have h02 : (0 : Int) ≤ (i : Int) + 5 := by omega
              have hn1 : ((i : Int) + 5).toNat = i + 5 := by omega
              rw [show ((0 : Nat) : Int) = 0 from rfl]
              by_cases he : c = 38
              · have hx := hhit 0 (by omega) he
                obtain ⟨hx1, hx2⟩ := hx
                have hg : decide ((i : Int) + 5 ≤ (s.length : Int)) = true := by rw [decide_eq_true_eq]; simp [entL] at hx1; omega
                replace hx2 : (ByteArray.mk s.toArray).extract i (i + 5) = ⟨#[38, 97, 109, 112, 59]⟩ := hx2
                have hle : (i : Int) + 5 ≤ (s.length : Int) := by simp [entL] at hx1; omega
                have hE := Lib.hid (show (t.take j ++ [(38 : UInt8)] = t.take (j + 1)) by rw [← he]; exact htk.out.symm)
                have hI := Lib.hid (show i + 5 = (escL (t.take (j + 1))).length by rw [hi2.out, he]; rfl)
                clear he hx1
                go_wp2_with fail
                go_round
                case rel => exact ⟨1, by omega, by first | rfl | go_num, .inr ⟨rfl, by rw [← hI.out]; go_num, by rw [← hE.out, ← bcat2]⟩⟩
                case measure => simp [intOf]
              · have hx := hmis 0 (by omega) he
                rcases hx with hx | ⟨hx1, xs, hx2, hx3⟩
                · have hg : decide ((i : Int) + 5 ≤ (s.length : Int)) = false := by rw [decide_eq_false_iff_not]; simp [entL] at hx; omega
                  clear hx
                  go_wp2_with fail
                  go_round
                  case rel => exact ⟨1, by omega, by first | rfl | go_num, .inl ⟨rfl, rfl, rfl, Lib.hid fun m hm => (if h : m < 0 then hno.out m h else (by obtain rfl : m = 0 := (by omega); exact he))⟩⟩
                  case measure => simp [intOf]
                · have hg : decide ((i : Int) + 5 ≤ (s.length : Int)) = true := by rw [decide_eq_true_eq]; simp [entL] at hx1; omega
                  have hle : (i : Int) + 5 ≤ (s.length : Int) := by simp [entL] at hx1; omega
                  replace hx2 : (ByteArray.mk s.toArray).extract i (i + 5) = ⟨xs.toArray⟩ := hx2
                  replace hx3 : (xs == [38, 97, 109, 112, 59]) = false := hx3
                  clear hx1
                  go_wp2_with fail
                  go_round
                  case rel => exact ⟨1, by omega, by first | rfl | go_num, .inl ⟨rfl, rfl, rfl, Lib.hid fun m hm => (if h : m < 0 then hno.out m h else (by obtain rfl : m = 0 := (by omega); exact he))⟩⟩
                  case measure => simp [intOf]
            · have f1 : (w.alloc entRow).cell? ⟨w.heap.size, 3, none⟩ = some (.string ⟨#[38, 108, 116, 59]⟩) := (xc _).trans rfl
              have f0 : (w.alloc entRow).cell? ⟨w.heap.size, 2, none⟩ = some (.string ⟨#[60]⟩) := (xc _).trans rfl
              have h0 : (0 : Int) ≤ (i : Int) := by omega
              have h01 : (i : Int) ≤ (i : Int) + 4 := by omega
              have h02 : (0 : Int) ≤ (i : Int) + 4 := by omega
              have hn1 : ((i : Int) + 4).toNat = i + 4 := by omega
              rw [show ((1 : Nat) : Int) = 1 from rfl]
              by_cases he : c = 60
              · have hx := hhit 1 (by omega) he
                obtain ⟨hx1, hx2⟩ := hx
                have hg : decide ((i : Int) + 4 ≤ (s.length : Int)) = true := by rw [decide_eq_true_eq]; simp [entL] at hx1; omega
                replace hx2 : (ByteArray.mk s.toArray).extract i (i + 4) = ⟨#[38, 108, 116, 59]⟩ := hx2
                have hle : (i : Int) + 4 ≤ (s.length : Int) := by simp [entL] at hx1; omega
                have hE := Lib.hid (show (t.take j ++ [(60 : UInt8)] = t.take (j + 1)) by rw [← he]; exact htk.out.symm)
                have hI := Lib.hid (show i + 4 = (escL (t.take (j + 1))).length by rw [hi2.out, he]; rfl)
                clear he hx1
                go_wp2_with fail
                go_round
                case rel => exact ⟨2, by omega, by first | rfl | go_num, .inr ⟨rfl, by rw [← hI.out]; go_num, by rw [← hE.out, ← bcat2]⟩⟩
                case measure => simp [intOf]
              · have hx := hmis 1 (by omega) he
                rcases hx with hx | ⟨hx1, xs, hx2, hx3⟩
                · have hg : decide ((i : Int) + 4 ≤ (s.length : Int)) = false := by rw [decide_eq_false_iff_not]; simp [entL] at hx; omega
                  clear hx
                  go_wp2_with fail
                  go_round
                  case rel => exact ⟨2, by omega, by first | rfl | go_num, .inl ⟨rfl, rfl, rfl, Lib.hid fun m hm => (if h : m < 1 then hno.out m h else (by obtain rfl : m = 1 := (by omega); exact he))⟩⟩
                  case measure => simp [intOf]
                · have hg : decide ((i : Int) + 4 ≤ (s.length : Int)) = true := by rw [decide_eq_true_eq]; simp [entL] at hx1; omega
                  have hle : (i : Int) + 4 ≤ (s.length : Int) := by simp [entL] at hx1; omega
                  replace hx2 : (ByteArray.mk s.toArray).extract i (i + 4) = ⟨xs.toArray⟩ := hx2
                  replace hx3 : (xs == [38, 108, 116, 59]) = false := hx3
                  clear hx1
                  go_wp2_with fail
                  go_round
                  case rel => exact ⟨2, by omega, by first | rfl | go_num, .inl ⟨rfl, rfl, rfl, Lib.hid fun m hm => (if h : m < 1 then hno.out m h else (by obtain rfl : m = 1 := (by omega); exact he))⟩⟩
                  case measure => simp [intOf]
            · have f1 : (w.alloc entRow).cell? ⟨w.heap.size, 5, none⟩ = some (.string ⟨#[38, 103, 116, 59]⟩) := (xc _).trans rfl
              have f0 : (w.alloc entRow).cell? ⟨w.heap.size, 4, none⟩ = some (.string ⟨#[62]⟩) := (xc _).trans rfl
              have h0 : (0 : Int) ≤ (i : Int) := by omega
              have h01 : (i : Int) ≤ (i : Int) + 4 := by omega
              have h02 : (0 : Int) ≤ (i : Int) + 4 := by omega
              have hn1 : ((i : Int) + 4).toNat = i + 4 := by omega
              rw [show ((2 : Nat) : Int) = 2 from rfl]
              by_cases he : c = 62
              · have hx := hhit 2 (by omega) he
                obtain ⟨hx1, hx2⟩ := hx
                have hg : decide ((i : Int) + 4 ≤ (s.length : Int)) = true := by rw [decide_eq_true_eq]; simp [entL] at hx1; omega
                replace hx2 : (ByteArray.mk s.toArray).extract i (i + 4) = ⟨#[38, 103, 116, 59]⟩ := hx2
                have hle : (i : Int) + 4 ≤ (s.length : Int) := by simp [entL] at hx1; omega
                have hE := Lib.hid (show (t.take j ++ [(62 : UInt8)] = t.take (j + 1)) by rw [← he]; exact htk.out.symm)
                have hI := Lib.hid (show i + 4 = (escL (t.take (j + 1))).length by rw [hi2.out, he]; rfl)
                clear he hx1
                go_wp2_with fail
                go_round
                case rel => exact ⟨3, by omega, by first | rfl | go_num, .inr ⟨rfl, by rw [← hI.out]; go_num, by rw [← hE.out, ← bcat2]⟩⟩
                case measure => simp [intOf]
              · have hx := hmis 2 (by omega) he
                rcases hx with hx | ⟨hx1, xs, hx2, hx3⟩
                · have hg : decide ((i : Int) + 4 ≤ (s.length : Int)) = false := by rw [decide_eq_false_iff_not]; simp [entL] at hx; omega
                  clear hx
                  go_wp2_with fail
                  go_round
                  case rel => exact ⟨3, by omega, by first | rfl | go_num, .inl ⟨rfl, rfl, rfl, Lib.hid fun m hm => (if h : m < 2 then hno.out m h else (by obtain rfl : m = 2 := (by omega); exact he))⟩⟩
                  case measure => simp [intOf]
                · have hg : decide ((i : Int) + 4 ≤ (s.length : Int)) = true := by rw [decide_eq_true_eq]; simp [entL] at hx1; omega
                  have hle : (i : Int) + 4 ≤ (s.length : Int) := by simp [entL] at hx1; omega
                  replace hx2 : (ByteArray.mk s.toArray).extract i (i + 4) = ⟨xs.toArray⟩ := hx2
                  replace hx3 : (xs == [38, 103, 116, 59]) = false := hx3
                  clear hx1
                  go_wp2_with fail
                  go_round
                  case rel => exact ⟨3, by omega, by first | rfl | go_num, .inl ⟨rfl, rfl, rfl, Lib.hid fun m hm => (if h : m < 2 then hno.out m h else (by obtain rfl : m = 2 := (by omega); exact he))⟩⟩
                  case measure => simp [intOf]
            · have f1 : (w.alloc entRow).cell? ⟨w.heap.size, 7, none⟩ = some (.string ⟨#[38, 97, 112, 111, 115, 59]⟩) := (xc _).trans rfl
              have f0 : (w.alloc entRow).cell? ⟨w.heap.size, 6, none⟩ = some (.string ⟨#[39]⟩) := (xc _).trans rfl
              have h0 : (0 : Int) ≤ (i : Int) := by omega
              have h01 : (i : Int) ≤ (i : Int) + 6 := by omega
              have h02 : (0 : Int) ≤ (i : Int) + 6 := by omega
              have hn1 : ((i : Int) + 6).toNat = i + 6 := by omega
              rw [show ((3 : Nat) : Int) = 3 from rfl]
              by_cases he : c = 39
              · have hx := hhit 3 (by omega) he
                obtain ⟨hx1, hx2⟩ := hx
                have hg : decide ((i : Int) + 6 ≤ (s.length : Int)) = true := by rw [decide_eq_true_eq]; simp [entL] at hx1; omega
                replace hx2 : (ByteArray.mk s.toArray).extract i (i + 6) = ⟨#[38, 97, 112, 111, 115, 59]⟩ := hx2
                have hle : (i : Int) + 6 ≤ (s.length : Int) := by simp [entL] at hx1; omega
                have hE := Lib.hid (show (t.take j ++ [(39 : UInt8)] = t.take (j + 1)) by rw [← he]; exact htk.out.symm)
                have hI := Lib.hid (show i + 6 = (escL (t.take (j + 1))).length by rw [hi2.out, he]; rfl)
                clear he hx1
                go_wp2_with fail
                go_round
                case rel => exact ⟨4, by omega, by first | rfl | go_num, .inr ⟨rfl, by rw [← hI.out]; go_num, by rw [← hE.out, ← bcat2]⟩⟩
                case measure => simp [intOf]
              · have hx := hmis 3 (by omega) he
                rcases hx with hx | ⟨hx1, xs, hx2, hx3⟩
                · have hg : decide ((i : Int) + 6 ≤ (s.length : Int)) = false := by rw [decide_eq_false_iff_not]; simp [entL] at hx; omega
                  clear hx
                  go_wp2_with fail
                  go_round
                  case rel => exact ⟨4, by omega, by first | rfl | go_num, .inl ⟨rfl, rfl, rfl, Lib.hid fun m hm => (if h : m < 3 then hno.out m h else (by obtain rfl : m = 3 := (by omega); exact he))⟩⟩
                  case measure => simp [intOf]
                · have hg : decide ((i : Int) + 6 ≤ (s.length : Int)) = true := by rw [decide_eq_true_eq]; simp [entL] at hx1; omega
                  have hle : (i : Int) + 6 ≤ (s.length : Int) := by simp [entL] at hx1; omega
                  replace hx2 : (ByteArray.mk s.toArray).extract i (i + 6) = ⟨xs.toArray⟩ := hx2
                  replace hx3 : (xs == [38, 97, 112, 111, 115, 59]) = false := hx3
                  clear hx1
                  go_wp2_with fail
                  go_round
                  case rel => exact ⟨4, by omega, by first | rfl | go_num, .inl ⟨rfl, rfl, rfl, Lib.hid fun m hm => (if h : m < 3 then hno.out m h else (by obtain rfl : m = 3 := (by omega); exact he))⟩⟩
                  case measure => simp [intOf]
            · have f1 : (w.alloc entRow).cell? ⟨w.heap.size, 9, none⟩ = some (.string ⟨#[38, 113, 117, 111, 116, 59]⟩) := (xc _).trans rfl
              have f0 : (w.alloc entRow).cell? ⟨w.heap.size, 8, none⟩ = some (.string ⟨#[34]⟩) := (xc _).trans rfl
              have h0 : (0 : Int) ≤ (i : Int) := by omega
              have h01 : (i : Int) ≤ (i : Int) + 6 := by omega
              have h02 : (0 : Int) ≤ (i : Int) + 6 := by omega
              have hn1 : ((i : Int) + 6).toNat = i + 6 := by omega
              rw [show ((4 : Nat) : Int) = 4 from rfl]
              by_cases he : c = 34
              · have hx := hhit 4 (by omega) he
                obtain ⟨hx1, hx2⟩ := hx
                have hg : decide ((i : Int) + 6 ≤ (s.length : Int)) = true := by rw [decide_eq_true_eq]; simp [entL] at hx1; omega
                replace hx2 : (ByteArray.mk s.toArray).extract i (i + 6) = ⟨#[38, 113, 117, 111, 116, 59]⟩ := hx2
                have hle : (i : Int) + 6 ≤ (s.length : Int) := by simp [entL] at hx1; omega
                have hE := Lib.hid (show (t.take j ++ [(34 : UInt8)] = t.take (j + 1)) by rw [← he]; exact htk.out.symm)
                have hI := Lib.hid (show i + 6 = (escL (t.take (j + 1))).length by rw [hi2.out, he]; rfl)
                clear he hx1
                go_wp2_with fail
                go_round
                case rel => exact ⟨5, by omega, by first | rfl | go_num, .inr ⟨rfl, by rw [← hI.out]; go_num, by rw [← hE.out, ← bcat2]⟩⟩
                case measure => simp [intOf]
              · have hx := hmis 4 (by omega) he
                rcases hx with hx | ⟨hx1, xs, hx2, hx3⟩
                · have hg : decide ((i : Int) + 6 ≤ (s.length : Int)) = false := by rw [decide_eq_false_iff_not]; simp [entL] at hx; omega
                  clear hx
                  go_wp2_with fail
                  go_round
                  case rel => exact ⟨5, by omega, by first | rfl | go_num, .inl ⟨rfl, rfl, rfl, Lib.hid fun m hm => (if h : m < 4 then hno.out m h else (by obtain rfl : m = 4 := (by omega); exact he))⟩⟩
                  case measure => simp [intOf]
                · have hg : decide ((i : Int) + 6 ≤ (s.length : Int)) = true := by rw [decide_eq_true_eq]; simp [entL] at hx1; omega
                  have hle : (i : Int) + 6 ≤ (s.length : Int) := by simp [entL] at hx1; omega
                  replace hx2 : (ByteArray.mk s.toArray).extract i (i + 6) = ⟨xs.toArray⟩ := hx2
                  replace hx3 : (xs == [38, 113, 117, 111, 116, 59]) = false := hx3
                  clear hx1
                  go_wp2_with fail
                  go_round
                  case rel => exact ⟨5, by omega, by first | rfl | go_num, .inl ⟨rfl, rfl, rfl, Lib.hid fun m hm => (if h : m < 4 then hno.out m h else (by obtain rfl : m = 4 := (by omega); exact he))⟩⟩
                  case measure => simp [intOf]
            · exact (hlast.out 5 (Nat.le_refl _) hno.out).elim
          · have hll := hlen.out (j + 1) (by omega)
            have hgt : i < (escL (t.take (j + 1))).length := by rw [hi2.out]; omega
            generalize hie2 : (escL (t.take (j + 1))).length = i' at hll hgt
            replace hie2 := Lib.hid hie2
            by_cases hk5 : k < 5
            · go_wp2
              go_round
              case rel => exact ⟨j + 1, by omega, by rw [hie2.out], rfl⟩
              case measure => simp [intOf]; omega
            · go_wp2
              go_round
              case rel => exact ⟨j + 1, by omega, by rw [hie2.out], rfl⟩
              case measure => simp [intOf]; omega
      · have hx1 := ext1 s i hlt2
        have hsc : s[i]'hlt2 = c := by rw [hsi]; simp only [hp1]; rfl
        rw [hsc] at hx1
        have n38 : ((s[i].toNat : Int) != 38) = true := by
          rw [hsc]; simp; intro e; exact hp2 (UInt8.toNat_inj.1 (by exact_mod_cast e))
        have n60 : ((s[i].toNat : Int) == 60) = false := by
          rw [hsc, beq_eq_false_iff_ne]; intro e; exact hp3 (UInt8.toNat_inj.1 (by exact_mod_cast e))
        have hI := Lib.hid (show i + 1 = (escL (t.take (j + 1))).length by rw [hi2.out, hp1]; rfl)
        have hE := Lib.hid htk.out.symm
        have h0 : (0 : Int) ≤ (i : Int) := by omega
        have h01 : (i : Int) ≤ (i : Int) + 1 := by omega
        have h02 : (0 : Int) ≤ (i : Int) + 1 := by omega
        have hn1 : ((i : Int) + 1).toNat = i + 1 := by omega
        have hle : (i : Int) + 1 ≤ (s.length : Int) := by omega
        replace hsc := Lib.hid hsc
        clear hp1 hsi hd hp2 hp3 hls h1
        go_wp2
        go_round
        case rel => exact ⟨j + 1, by omega, by rw [← hI.out]; go_num, by rw [← hE.out, ← bcat2]⟩
        case measure => simp [intOf]; omega
    · obtain rfl : j = t.length := by omega
      have e := hfull.out
      rw [e, List.take_length]
      go_wp2
      go_ret2
      exact ⟨rfl, rfl⟩
end Go.Proofs.YtadahlffdhgapaaDoor
