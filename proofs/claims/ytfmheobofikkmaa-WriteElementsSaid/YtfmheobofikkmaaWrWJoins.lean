/-
  The walk of WriteJoins.
-/
import Derived.Test.YtfmheobofikkmaaWrLive
import Derived.Test.YtfmheobofikkmaaWrJoinPure
import Derived.Test.YtfmheobofikkmaaOpenTk
namespace Go.Proofs.Ytfmheobofikkmaa
set_option linter.unusedVariables false
set_option linter.unusedSimpArgs false
open Go.RowKit Go.MapKept
theorem TksB.small {l : List Tk} (h : TksB 140737488351232 l) : ∀ tk ∈ l, tk.small := fun tk ht => by
  obtain ⟨h1, h2, h3, h4⟩ := h.2 tk ht
  exact ⟨h1, h2, by omega, h4⟩
theorem TksB.of_app {a b : List Tk} (ha : ∀ tk ∈ a, tk.small) (hb : ∀ tk ∈ b, tk.small) : ∀ tk ∈ a ++ b, tk.small := fun tk ht => by
  rcases List.mem_append.1 ht with h | h
  · exact ha tk h
  · exact hb tk h
theorem tk_src {w : World} {v : Value} {l : List Tk} (h : TkS w v l) (h0 : 0 < l.length) : ∃ (ps : List (Tk × Value)) (ad : Addr) (c : Nat), v = .slice (some ad) l.length c ∧ ps.map (·.1) = l ∧ (∀ p ∈ ps, AtS w p.2 p.1.as) ∧ ps.length = l.length ∧ (∀ j u, (tkCells ps)[j]? = some u → w.cell? (ad.add j) = some u) ∧ (∀ u ∈ tkCells ps, u.oneCell' = true) := by
  obtain ⟨ps, hps, hpa, hsrc⟩ := h.pairs
  have hl : ps.length = l.length := by rw [← hps, List.length_map]
  rcases hsrc with ⟨_, e⟩ | ⟨ad, c, rfl, hsr⟩
  · rw [e] at hl; simp at hl; omega
  · exact ⟨ps, ad, c, by rw [hl], hps, hpa, hl, hsr, tkCells_one ps (by intro p hp; obtain ⟨a, c, h, -⟩ := hpa p hp; exact ⟨_, _, _, h⟩)⟩
theorem owns_nil (w : World) (base : Nat) : w.ownsRow base 28 4 (.slice none 0 0) 0 [] := ⟨rfl, .inl ⟨rfl, rfl⟩⟩
set_option maxHeartbeats 4000000 in
theorem writeJoins_walk (v1 : Value) (a : List Tk) (v2 : Value) (b : List Tk) (w : World) (h1 : TkS w v1 a) (ha : TksB 140737488351232 a) (h2 : TkS w v2 b) (hb : TksB 140737488351232 b) :
    Calls Try.prog 4 #[v1, v2] w fun e w' => e = .returned (.bool true) ∧ Below w.heap.size w w' := by
  have sa := ha.small
  have sb := hb.small
  clear ha hb
  replace h1 := Lib.hid h1
  replace h2 := Lib.hid h2
  obtain ⟨p1, c1, rfl⟩ := h1.out.shape
  obtain ⟨p2, c2, rfl⟩ := h2.out.shape
  have hL := Lib.hid live_any
  by_cases l1 : 30 < a.length
  · go_enter Try.func4, Try.ntmps4
    go_wp2_with (go_at_call 11; refine (hL.out _).mono ?_; rintro e w5 ⟨rfl, hb5⟩)
    go_ret
    exact ⟨rfl, hb5⟩
  by_cases l2 : 30 < b.length
  · go_enter Try.func4, Try.ntmps4
    go_wp2_with (go_at_call 11; refine (hL.out _).mono ?_; rintro e w5 ⟨rfl, hb5⟩)
    go_ret
    exact ⟨rfl, hb5⟩
  cases w1h : wholeL a with
  | false =>
    have hW := whole_full _ a w h1.out sa
    rw [w1h] at hW
    clear w1h
    go_enter Try.func4, Try.ntmps4
    go_wp2_with (first
      | (go_at_call 12; refine hW.mono ?_; rintro e w4 ⟨rfl, hb4⟩)
      | (go_at_call 11; refine (hL.out _).mono ?_; rintro e w5 ⟨rfl, hb5⟩))
    go_ret
    exact ⟨rfl, belowT hb4 hb5⟩
  | true =>
  cases w2h : wholeL b with
  | false =>
    have hW := whole_full _ a w h1.out sa
    rw [w1h] at hW
    have hV := fun W hB => whole_full _ b W (h2.out.below hB) sb
    rw [w2h] at hV
    replace hV := Lib.hid hV
    clear w1h w2h
    have tok1 := Lib.hid True.intro
    go_enter Try.func4, Try.ntmps4
    go_wp2_with (first
      | (go_at_call 12; have m0 := tok1.out; refine hW.mono ?_; rintro e w4 ⟨rfl, hb4⟩; clear tok1 m0; have tok2 := Lib.hid True.intro)
      | (go_at_call 12; have m0 := tok2.out; refine (hV.out _ hb4).mono ?_; rintro e w6 ⟨rfl, hb6⟩)
      | (go_at_call 11; refine (hL.out _).mono ?_; rintro e w5 ⟨rfl, hb5⟩))
    go_ret
    exact ⟨rfl, belowT (belowT hb4 hb6) hb5⟩
  | true =>
    obtain ⟨ra, la, _⟩ := whole_right w1h
    obtain ⟨rb, lb, _⟩ := whole_right w2h
    have hj := join_right ra rb (by omega)
    have hjw := join_whole w1h w2h
    have hjp := print_join (b := b) ra
    have hW := whole_full _ a w h1.out sa
    rw [w1h] at hW
    have hV := fun W hB => whole_full _ b W (h2.out.below hB) sb
    rw [w2h] at hV
    have hPa := fun W hB => print_good _ a W (h1.out.below hB) sa ra
    have hPb := fun W hB => print_good _ b W (h2.out.below hB) sb rb
    have hPj := fun v W hB => print_good v (a ++ b) W hB (TksB.of_app sa sb) hj
    have hWj := fun v W hB => whole_full v (a ++ b) W hB (TksB.of_app sa sb)
    rw [hjw] at hWj
    rw [hjp] at hPj
    obtain ⟨ps1, ad1, cc1, e1, hps1, hpa1, hl1, hsr1, one1⟩ := tk_src h1.out la
    obtain ⟨ps2, ad2, cc2, e2, hps2, hpa2, hl2, hsr2, one2⟩ := tk_src h2.out lb
    obtain ⟨i0, hi, hz0, hz1, hz2⟩ := info_parts infoT
    injection e1 with e1 _ e1c
    injection e2 with e2 _ e2c
    subst e1 e1c e2 e2c
    replace hV := Lib.hid hV
    replace hPa := Lib.hid hPa
    replace hPb := Lib.hid hPb
    replace hPj := Lib.hid hPj
    replace hWj := Lib.hid hWj
    replace hps1 := Lib.hid hps1
    replace hps2 := Lib.hid hps2
    replace hl1 := Lib.hid hl1
    replace hl2 := Lib.hid hl2
    replace hpa1 := Lib.hid hpa1
    replace hpa2 := Lib.hid hpa2
    clear w1h w2h hjw hjp hj
    have hcat := bcat (printR a) (printR b)
    have hle1 := print_len ra
    have hle2 := print_len rb
    have hnl : ¬ 9223372036854775807 < (printR a).length + (printR b).length := by omega
    clear hle1 hle2
    have tok1 := Lib.hid True.intro
    go_enter Try.func4, Try.ntmps4
    go_wp2_with (first
      | (go_at_call 12; have m0 := tok1.out; refine hW.mono ?_; rintro e w4 ⟨rfl, hb4⟩; clear tok1 m0; have tok2 := Lib.hid True.intro)
      | (go_at_call 12; have m0 := tok2.out; refine (hV.out _ hb4).mono ?_; rintro e w6 ⟨rfl, hb6⟩
         replace hb6 := belowT hb4 hb6
         have hs6 := hb6.size
         clear tok2 m0; have tok3 := Lib.hid True.intro)
      | (have m0 := tok3.out; at_builtin; refine wpList_append_own _ rfl _ _ 22 rfl w.heap.size 28 i0 _ 4 64 Try.underlying22 hi hz0 hz1 hz2 rfl (by decide) _ _ _ rfl (owns_nil _ _) ad1 a.length c1 (tkCells ps1) rfl (by rw [tkCells_len, hl1.out]) (fun j u hj => (hb6.cell (cell_lt (hsr1 j u hj))).trans (hsr1 j u hj)) one1 (by unfold maxLen; omega) (by omega) (by omega) ?_
         intro v3 w3 hO3 hg3 _
         rw [List.nil_append, Nat.zero_add] at hO3
         have hb3 : Below w.heap.size w w3 := hb6.grown hg3 (by omega) (fun k hk => (by cases hk))
         have hs3 := hb3.size
         clear tok3 m0; have tok4 := Lib.hid True.intro)
      | (have m0 := tok4.out; at_builtin; refine wpList_append_own _ rfl _ _ 22 rfl w.heap.size 28 i0 _ 4 64 Try.underlying22 hi hz0 hz1 hz2 rfl (by decide) _ _ _ rfl hO3 ad2 b.length c2 (tkCells ps2) rfl (by rw [tkCells_len, hl2.out]) (fun j u hj => (hb3.cell (cell_lt (hsr2 j u hj))).trans (hsr2 j u hj)) one2 (by unfold maxLen; omega) (by omega) (by omega) ?_
         intro v7 w7 hO7 hg7 _
         have hb7 : Below w.heap.size w w7 := hb3.grown hg7 (by omega) (fun k hk => (hO3.lt k hk).1)
         have hT7 : Hid (TkS w7 v7 (a ++ b)) := Lib.hid (by
           have e : tkCells ps1 ++ tkCells ps2 = tkCells (ps1 ++ ps2) := by simp [tkCells]
           rw [e] at hO7
           have := owns_tks hO7 (by rw [List.length_append, hl1.out, hl2.out]) (fun p hp => by
             rcases List.mem_append.1 hp with hp | hp
             · exact (hpa1.out p hp).below hb7
             · exact (hpa2.out p hp).below hb7)
           rw [List.map_append, hps1.out, hps2.out] at this
           exact this)
         obtain ⟨a7, c7, rfl⟩ := owns_val hO7
         clear tok4 m0; have tok5 := Lib.hid True.intro)
      | (go_at_call 13; have m0 := tok5.out; refine (hPa.out _ hb7).mono ?_; rintro e w8 ⟨rfl, hb8⟩
         replace hT7 := Lib.hid (hT7.out.below hb8)
         replace hb8 := Lib.hid (belowT hb7 hb8)
         clear tok5 m0; have tok6 := Lib.hid True.intro)
      | (go_at_call 13; have m0 := tok6.out; refine (hPb.out _ hb8.out).mono ?_; rintro e w9 ⟨rfl, hb9⟩
         replace hT7 := Lib.hid (hT7.out.below hb9)
         replace hb9 := Lib.hid (belowT hb8.out hb9)
         clear tok6 m0; have tok7 := Lib.hid True.intro)
      | (go_at_call 13; have m0 := tok7.out; refine (hPj.out _ _ hT7.out).mono ?_; rintro e w10 ⟨rfl, hb10⟩
         replace hT7 := Lib.hid (hT7.out.below hb10)
         replace hb10 := Lib.hid (belowT hb9.out hb10)
         clear tok7 m0; have tok8 := Lib.hid True.intro)
      | (go_at_call 11; refine (hL.out _).mono ?_; rintro e w11 ⟨rfl, hb11⟩
         replace hT7 := Lib.hid (hT7.out.below hb11)
         replace hb11 := Lib.hid (belowT hb10.out hb11))
      | (go_at_call 12; have m0 := tok8.out; refine (hWj.out _ _ hT7.out).mono ?_; rintro e w12 ⟨rfl, hb12⟩
         replace hb12 := Lib.hid (belowT hb11.out hb12)))
    go_ret
    exact ⟨rfl, hb12.out⟩
end Go.Proofs.Ytfmheobofikkmaa
