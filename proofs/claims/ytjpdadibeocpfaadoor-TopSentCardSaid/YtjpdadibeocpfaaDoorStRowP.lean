/-
  Bounds of stanzas' tokens. No condition.
-/
import Derived.Test.YtjpdadibeocpfaaDoorStRe
import Derived.Test.YtjpdadibeocpfaaDoorOpenTk
namespace Go.Proofs.YtjpdadibeocpfaaDoor
set_option linter.unusedVariables false
set_option linter.unusedSimpArgs false
open Go.RowKit Go.MapKept
theorem small_of {l : List Tk} (h : TksB 140737488351232 l) : ∀ tk ∈ l, tk.small ∧ tk.as.length * 32 ≤ 140737488351232 := by
  intro tk ht
  obtain ⟨h1, h2, h3, h4⟩ := h.2 tk ht
  exact ⟨⟨h1, h2, by omega, h4⟩, h3⟩
theorem small_cut {z : Sz} (hf : z.smallF) (hb : TksB 140737488351232 z.pl) : ({ z with pl := z.pl.take 70 } : Sz).small :=
  ⟨hf, by show (z.pl.take 70).length ≤ 1000; rw [List.length_take]; omega, fun tk ht => small_of hb tk (List.mem_of_mem_take ht)⟩
theorem tokens_ok {z : Sz} (h : z.small) : ∀ tk ∈ tokensZ z, tk.small ∧ tk.as.length * 32 ≤ 140737488351232 := fun tk ht => ⟨tokens_small h tk ht, by
  have := attrsZ_len z
  unfold tokensZ elemL at ht
  simp only [List.mem_cons, List.mem_append, List.mem_nil_iff, or_false] at ht
  rcases ht with rfl | ht | rfl
  · show (attrsZ z).length * 32 ≤ _; omega
  · exact (h.2.2 tk ht).2
  · simp⟩
theorem right_len {z : Sz} (h : rightZ z = true) : (tokensZ z).length ≤ 66 := by
  unfold rightZ at h
  simp only [Bool.and_eq_true, decide_eq_true_eq] at h
  have := h.1.2
  simp [tokensZ, elemL]
  omega
theorem dec_small {l : List Tk} (hs : ∀ tk ∈ l, tk.small ∧ tk.as.length * 32 ≤ 140737488351232) (hl : l.length ≤ 1000) {x : Sz} (h : decZ l = some x) : x.small := by
  unfold decZ at h
  split at h
  · cases h
  · split at h
    · rename_i z hz
      split at h
      · injection h with h
        subst h
        have hA : ∀ p ∈ (l.head?.map Tk.as).getD [], p.1.length ≤ 140737488351232 ∧ p.2.length ≤ 140737488351232 := by
          cases l with
          | nil => intro p hp; cases hp
          | cons a r => intro p hp; exact (hs a (by simp)).1.2.2.2 p hp
        obtain ⟨h1, -, -⟩ := decA_small hA (z := ⟨_, [], [], [], [], []⟩) ⟨by simp, by simp, by simp, by simp⟩ hz
        exact ⟨h1, by show ((l.drop 1).take (l.length - 2)).length ≤ 1000; simp; omega, fun tk ht => hs tk (List.mem_of_mem_drop (List.mem_of_mem_take ht))⟩
      · cases h
    · cases h
end Go.Proofs.YtjpdadibeocpfaaDoor
