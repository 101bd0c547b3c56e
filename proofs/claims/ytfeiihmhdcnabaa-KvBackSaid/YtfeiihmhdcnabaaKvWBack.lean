/-
  The walk of KvBack.
-/
import Derived.Test.YtfeiihmhdcnabaaKvSame
namespace Go.Proofs.Ytfeiihmhdcnabaa
set_option linter.unusedVariables false
set_option linter.unusedSimpArgs false
open Go.RowKit Go.MapKept
theorem kv_blen {E : Ats} (h : okE E) : (bytesE E).length ≤ 600000 := Nat.le_trans (bytes_le h.2.2) (by have := h.2.1; omega)
theorem kv_again (E : Ats) (v : Value) (W : World) (hE : okE E) (h : BySl W v (bytesE E)) :
    Calls Try.prog 21 #[v] W fun e w' => ∃ g b, e = .returned (.tuple #[.pointer (some ⟨g, 0, none⟩), .int .i64 0]) ∧ W.heap.size ≤ g ∧ W.heap.size ≤ b ∧ KvS w' g b E ∧ Below W.heap.size W w' := by
  have hk := kvLoad_any v (bytesE E) W h (by have := kv_blen hE; omega)
  rw [load_bytes hE] at hk
  exact hk.mono fun e w' ⟨hb, g, b, h1, h2, h3, h4⟩ => ⟨g, b, h1, h2, h3, h4, hb⟩
theorem kvBack_walk (v : Value) (l : List Dd) (w : World) (h : DdS w v l) (hB : DdB l) :
    Calls Try.prog 10 #[v] w fun e w' => e = .returned (.bool true) ∧ Below w.heap.size w w' := by
  have hP := Lib.hid (play_any v l w h hB)
  have hSa : Hid (∀ g b gr E W, Both w.heap.size W g b gr E → Calls Try.prog 17 #[.pointer (some ⟨g, 0, none⟩), .pointer (some ⟨gr, 0, none⟩), .string ⟨#[]⟩] W fun e w' => e = .returned (.bool true) ∧ Below W.heap.size W w') := Lib.hid fun g b gr E W h => same_any w.heap.size g b gr E [] W h (by simp)
  have hL := Lib.hid live_kv
  have hok := Lib.hid (ok_play (l.take 60))
  have hBy := Lib.hid bytesC
  have hLo := Lib.hid kv_again
  obtain ⟨va, vn, vc, rfl⟩ : ∃ a n c, v = .slice a n c := by obtain ⟨a, c, h, -⟩ := h; exact ⟨a, _, c, h⟩
  clear h hB
  generalize playE [] (l.take 60) = E at hP hok
  go_enter Try.func10, Try.ntmps10
  go_wp2_with (first
    | (have m0 := hb4; go_at_call 17; refine (hSa.out _ _ _ _ _ hBo4.out).mono ?_; rintro e w5 ⟨rfl, hbn⟩; have hb5 := Lib.hid (belowT hb4.out hbn); clear hbn)
    | (have m0 := hb3; go_at_call 21; refine (hLo.out _ _ _ hok.out hS3.out).mono ?_; rintro e w4 ⟨g4, b4, rfl, hg4, hb4', hK4, hbn⟩; have hBo4 := Lib.hid (⟨hK4, hBo3.out.rf.below hbn, Nat.le_trans hb3.out.size hb4', hBo3.out.hr⟩ : Both w.heap.size w4 g4 b4 gr E); have hb4 := Lib.hid (belowT hb3.out hbn); clear hbn hK4)
    | (have m0 := hb2; go_at_call 23; refine (hBy.out _ _ _ _ hBo2.out.kv).mono ?_; rintro e w3 ⟨v3, rfl, -, hS3, hbn⟩; obtain ⟨a3, n3, c3, rfl⟩ : ∃ a n c, v3 = .slice a n c := (by obtain ⟨a, c, h, -⟩ := hS3; exact ⟨a, _, c, h⟩); replace hS3 := Lib.hid hS3; have hBo3 := Lib.hid (hBo2.out.below hbn); have hb3 := Lib.hid (belowT hb2.out hbn); clear hbn)
    | (have m0 := hb1; go_at_call 14; refine (hL.out _).mono ?_; rintro e w2 ⟨rfl, hbn⟩; have hBo2 := Lib.hid (hBo.out.below hbn); have hb2 := Lib.hid (belowT hb1.out hbn); clear hbn)
    | (go_at_call 16; refine hP.out.mono ?_; rintro e w1 ⟨g, b, gr, rfl, hBo, hb1⟩; replace hBo := Lib.hid hBo; replace hb1 := Lib.hid hb1))
  go_ret
  exact ⟨rfl, hb5.out⟩
end Go.Proofs.Ytfeiihmhdcnabaa
