/-
  A stanza's tokens, or the error, by the program. Condition: no text beyond the reach, at most 1000 tokens.
-/
import Derived.Test.YtpgojinfhfipeaaStRight
namespace Go.Proofs.Ytpgojinfhfipeaa
set_option linter.unusedVariables false
set_option linter.unusedSimpArgs false
open Go.RowKit Go.MapKept
def errE (b : Bool) : Int := if b then 0 else 3
def encL (z : Sz) : List Tk := if rightZ z then tokensZ z else []
set_option maxHeartbeats 1000000 in
theorem encode_any (z : Sz) (sv : Value) (w : World) (hT : TkS w sv z.pl) (hs : z.small) :
    Calls Try.prog 8 #[szV z sv] w fun e w' => ∃ v, e = .returned (.tuple #[v, .int .i64 (errE (rightZ z))]) ∧ TkS w' v (encL z) ∧ Below w.heap.size w w' := by
  obtain ⟨svp, svc, rfl⟩ : ∃ a c, sv = .slice a z.pl.length c := by obtain ⟨a, c, h, -⟩ := hT; exact ⟨a, c, h⟩
  have hR : Hid (∀ W, Below w.heap.size w W → Calls Try.prog 10 #[szV z (.slice svp z.pl.length svc)] W fun e w' => e = .returned (.bool (rightZ z)) ∧ Below W.heap.size W w') := Lib.hid fun W hb => right_any6 z _ W (hT.below hb) hs
  have hto : Hid (∀ W, Below w.heap.size w W → Calls Try.prog 22 #[szV z (.slice svp z.pl.length svc)] W fun e w' => ∃ v, e = .returned v ∧ TkS w' v (tokensZ z) ∧ Below W.heap.size W w') := Lib.hid fun W hb => tokens_any z _ W (hT.below hb) hs.2.1 (fun tk ht => (hs.2.2 tk ht).2)
  replace hT := Lib.hid hT
  replace hs := Lib.hid hs
  cases hr : rightZ z
  · have e1 : encL z = [] := by unfold encL; rw [hr]; rfl
    rw [hr] at hR
    replace hr := Lib.hid hr
    replace e1 := Lib.hid e1
    unfold szV at hR hto ⊢
    obtain ⟨k, ty, fr, tt, id, pl⟩ := z
    simp only at hR hto ⊢
    go_enter Try.func8, Try.ntmps8
    go_wp2_with (go_at_call 10; refine (hR.out _ (below1 _ _)).mono ?_; rintro e w1 ⟨rfl, hb⟩; replace hb := Lib.hid hb)
    go_ret2
    exact ⟨_, rfl, by rw [e1.out]; exact tk_nil _ 0 (Nat.zero_le _), below1t hb.out⟩
  · have e1 : encL z = tokensZ z := by unfold encL; rw [hr]; rfl
    rw [hr] at hR
    replace hr := Lib.hid hr
    replace e1 := Lib.hid e1
    unfold szV at hR hto ⊢
    obtain ⟨k, ty, fr, tt, id, pl⟩ := z
    simp only at hR hto ⊢
    go_enter Try.func8, Try.ntmps8
    go_wp2_with (first
      | (go_at_call 10; refine (hR.out _ (below1 _ _)).mono ?_; rintro e w1 ⟨rfl, hb⟩; obtain ⟨hc, -⟩ := bat hb w.heap.size (by simp); replace hb := Lib.hid hb)
      | (go_at_call 22; refine (hto.out _ (below1t hb.out)).mono ?_; rintro e w2 ⟨v, rfl, hv, hb2⟩; replace hv := Lib.hid hv; replace hb2 := Lib.hid hb2))
    go_ret2
    exact ⟨_, rfl, by rw [e1.out]; exact hv.out, belowT (below1t hb.out) hb2.out⟩
end Go.Proofs.Ytpgojinfhfipeaa
