/-
  A tree of collections (plain): who subscribes to the root is told of all, who subscribes to one place with depth 1 of that and of those right in it. No program's text, no condition.
-/
import Derived.Test.YtoijpjmkjhoiaaaFnFan
namespace Go.Proofs.Ytoijpjmkjhoiaaa
set_option linter.unusedVariables false
set_option linter.unusedSimpArgs false
open Go.RowKit Go.MapKept
def chT (k : Nat) : UInt8 := UInt8.ofNat (97 + k)
def oT : Tx := [111, 64, 100]
def sT : Tx := [115, 64, 100]
def rT : Tx := [114, 64, 100]
theorem chT_nat : ∀ k, k ≤ 20 → (chT k).toNat = 97 + k := by decide
theorem chT_inj {i j : Nat} (hi : i ≤ 20) (hj : j ≤ 20) (h : chT i = chT j) : i = j := by
  have h1 := chT_nat i hi
  have h2 := chT_nat j hj
  rw [h] at h1
  omega
def subsT (k i : Nat) : List (Tx × Bool × Int) := (if i = 0 then [(rT, false, 0)] else []) ++ (if i = k then [(sT, false, 1)] else [])
def ndT (k : Nat) (par : Nat → Nat) (i : Nat) : Nd := ⟨[chT i], true, 0, 0, [(oT, 5)], subsT k i, if i = 0 then [] else [chT (par i)]⟩
def treeT (n k : Nat) (par : Nat → Nat) : List Nd := (List.range n).map (ndT k par)
theorem tree_len (n k : Nat) (par : Nat → Nat) : (treeT n k par).length = n := by simp [treeT]
theorem tree_at {n k : Nat} {par : Nat → Nat} {i : Nat} (h : i < n) : (treeT n k par)[i]? = some (ndT k par i) := by simp [treeT, h]
theorem tree_idx {n k : Nat} {par : Nat → Nat} (hn : n ≤ 20) {j : Nat} (hj : j < n) : idxN (treeT n k par) [chT j] = some j := by
  unfold idxN
  rw [List.findIdx?_eq_some_iff_getElem]
  refine ⟨by rw [tree_len]; exact hj, by simp [treeT, ndT], fun i hi => ?_⟩
  simp only [treeT, List.getElem_map, List.getElem_range, ndT]
  intro h
  have h' : chT i = chT j := by simpa using h
  have := chT_inj (by omega) (by omega) h'
  omega
theorem tree_idx0 {n k : Nat} {par : Nat → Nat} : idxN (treeT n k par) [] = none := by
  unfold idxN
  rw [List.findIdx?_eq_none_iff]
  intro x hx
  obtain ⟨i, -, rfl⟩ := List.mem_map.1 hx
  rfl
theorem told_mem {n : Nd} {d : Nat} {x : Tx} : ∀ {sb : List (Tx × Bool × Int)} {T : List Tx}, x ∈ toldN n d sb T ↔ x ∈ T ∨ ∃ s ∈ sb, tellN n d s = true ∧ s.1 = x
  | [], T => by simp [toldN]
  | s :: r, T => by
    have h : toldN n d (s :: r) T = toldN n d r (if tellN n d s then s.1 :: T else T) := rfl
    rw [h, told_mem (sb := r)]
    cases ht : tellN n d s
    · simp [ht]
    · simp only [if_true, List.mem_cons]
      constructor
      · rintro ((rfl | h) | ⟨s', h1, h2⟩)
        · exact .inr ⟨s, .inl rfl, ht, rfl⟩
        · exact .inl h
        · exact .inr ⟨s', .inr h1, h2⟩
      · rintro (h | ⟨s', rfl | h1, h2, h3⟩)
        · exact .inl (.inr h)
        · exact .inl (.inl h3.symm)
        · exact .inr ⟨s', h1, h2, h3⟩
theorem reads_T (k : Nat) (par : Nat → Nat) (i : Nat) {x : Tx} (hx : x = rT ∨ x = sT) : readsN (ndT k par i) x = true := by
  have h : roleN (ndT k par i) x = 2 := by
    rcases hx with rfl | rfl <;> simp [roleN, ndT, oT, rT, sT]
  unfold readsN
  rw [h]
  simp [ndT]
def hitT (k : Nat) (par : Nat → Nat) (d i : Nat) : Prop := (d ≤ 1 ∧ i = k) ∨ (d = 0 ∧ i ≠ 0 ∧ par i = k)
theorem told_T {k : Nat} {par : Nat → Nat} {i0 d i : Nat} {T : List Tx} {x : Tx} : x ∈ toldN (ndT k par i0) d (subsT k i) T ↔ x ∈ T ∨ (x = rT ∧ i = 0) ∨ (x = sT ∧ i = k ∧ d ≤ 1) := by
  rw [told_mem]
  have hr : tellN (ndT k par i0) d (rT, false, 0) = true := by simp [tellN, farB, reads_T k par i0 (.inl rfl)]
  have hs : tellN (ndT k par i0) d (sT, false, 1) = decide (d ≤ 1) := by
    simp only [tellN, farB, reads_T k par i0 (.inr rfl)]
    by_cases h : d ≤ 1
    · have h1 : ¬ (1 : Int) < (d : Int) := by omega
      simp [h, h1]
    · have h1 : (1 : Int) < (d : Int) := by omega
      have h2 : 0 < d := by omega
      simp [h, h1, h2]
  unfold subsT
  constructor
  · rintro (h | ⟨s, hm, ht, rfl⟩)
    · exact .inl h
    · rcases List.mem_append.1 hm with hm | hm
      · split at hm
        · rename_i h0; rw [List.mem_singleton.1 hm]; exact .inr (.inl ⟨rfl, h0⟩)
        · cases hm
      · split at hm
        · rename_i h0
          rw [List.mem_singleton.1 hm] at ht ⊢
          rw [hs] at ht
          exact .inr (.inr ⟨rfl, h0, by simpa using ht⟩)
        · cases hm
  · rintro (h | ⟨rfl, h⟩ | ⟨rfl, h1, h2⟩)
    · exact .inl h
    · exact .inr ⟨(rT, false, 0), List.mem_append_left _ (by rw [if_pos h]; simp), hr, rfl⟩
    · exact .inr ⟨(sT, false, 1), List.mem_append_right _ (by rw [if_pos h1]; simp), by rw [hs]; simpa using h2, rfl⟩
theorem up_T {n k : Nat} {par : Nat → Nat} (hn : n ≤ 20) (hp : ∀ i, 0 < i → i < n → par i < i) (i0 : Nat) : ∀ (i g d : Nat) (S T : List Tx), i < n → i < g → (∀ x ∈ S, ∃ j, i < j ∧ j < n ∧ x = [chT j]) →
    ∃ T', upN (treeT n k par) (ndT k par i0) g i d S T = some T' ∧ ∀ x, x ∈ T' ↔ x ∈ T ∨ x = rT ∨ (x = sT ∧ hitT k par d i) := by
  intro i
  induction i using Nat.strongRecOn with
  | _ i ih =>
    intro g d S T hi hg hS
    obtain ⟨g, rfl⟩ : ∃ g', g = g' + 1 := ⟨g - 1, by omega⟩
    unfold upN
    rw [tree_at hi]
    simp only
    by_cases h0 : i = 0
    · subst h0
      have hpa : (ndT k par 0).pa = [] := rfl
      rw [hpa, tree_idx0]
      refine ⟨_, rfl, fun x => ?_⟩
      show x ∈ toldN (ndT k par i0) d (subsT k 0) T ↔ _
      rw [told_T]
      unfold hitT
      constructor
      · rintro (h | ⟨h, -⟩ | ⟨h1, h2, h3⟩)
        · exact .inl h
        · exact .inr (.inl h)
        · exact .inr (.inr ⟨h1, .inl ⟨h3, h2⟩⟩)
      · rintro (h | h | ⟨h1, ⟨h2, h3⟩ | ⟨-, h, -⟩⟩)
        · exact .inl h
        · exact .inr (.inl ⟨h, rfl⟩)
        · exact .inr (.inr ⟨h1, h3, h2⟩)
        · exact absurd rfl h
    · have hpa : (ndT k par i).pa = [chT (par i)] := by simp [ndT, h0]
      have hpi := hp i (by omega) hi
      rw [hpa, tree_idx hn (show par i < n by omega)]
      have hnc : ¬ (([chT (par i)] : Tx) = [] ∨ ((ndT k par i).nm :: S).contains [chT (par i)] = true) := by
        rintro (h | h)
        · cases h
        · have hm : [chT (par i)] ∈ ((ndT k par i).nm :: S) := by simpa using h
          rcases List.mem_cons.1 hm with h | h
          · have h' : chT (par i) = chT i := by simpa [ndT] using h
            have := chT_inj (by omega) (by omega) h'
            omega
          · obtain ⟨j, h1, h2, h3⟩ := hS _ h
            have h' : chT (par i) = chT j := by simpa using h3
            have := chT_inj (by omega) (by omega) h'
            omega
      simp only
      rw [if_neg hnc]
      obtain ⟨T', h1, h2⟩ := ih (par i) hpi g (d + 1) ((ndT k par i).nm :: S) (toldN (ndT k par i0) d (ndT k par i).sb T) (by omega) (by omega) (fun x hx => by
        rcases List.mem_cons.1 hx with rfl | hx
        · exact ⟨i, hpi, hi, rfl⟩
        · obtain ⟨j, h1, h2, h3⟩ := hS x hx
          exact ⟨j, by omega, h2, h3⟩)
      refine ⟨T', h1, fun x => ?_⟩
      rw [h2]
      show x ∈ toldN (ndT k par i0) d (subsT k i) T ∨ _ ↔ _
      rw [told_T]
      unfold hitT
      constructor
      · rintro ((h | ⟨h, -⟩ | ⟨h1, h2, h3⟩) | h | ⟨h1, ⟨h2, h3⟩ | ⟨h2, -⟩⟩)
        · exact .inl h
        · exact .inr (.inl h)
        · exact .inr (.inr ⟨h1, .inl ⟨h3, h2⟩⟩)
        · exact .inr (.inl h)
        · exact .inr (.inr ⟨h1, .inr ⟨by omega, h0, h3⟩⟩)
        · omega
      · rintro (h | h | ⟨h1, ⟨h2, h3⟩ | ⟨h2, -, h3⟩⟩)
        · exact .inl (.inl h)
        · exact .inr (.inl h)
        · exact .inl (.inr (.inr ⟨h1, h3, h2⟩))
        · exact .inr (.inr ⟨h1, .inl ⟨by omega, h3⟩⟩)
def nearT (k : Nat) (par : Nat → Nat) (i : Nat) : Bool := decide (i = k) || (decide (i ≠ 0) && decide (par i = k))
theorem fan_T {n k : Nat} {par : Nat → Nat} (hn : n ≤ 20) (hp : ∀ i, 0 < i → i < n → par i < i) {i : Nat} (hi : i < n) :
    ∃ T, fanN (treeT n k par) [chT i] = some T ∧ ∀ x, x ∈ T ↔ x = rT ∨ (x = sT ∧ nearT k par i = true) := by
  obtain ⟨T, h1, h2⟩ := up_T (k := k) hn hp i i (n + 1) 0 [] [] hi (by omega) (fun x h => by cases h)
  refine ⟨T, ?_, fun x => ?_⟩
  · unfold fanN
    rw [tree_idx hn hi]
    simp only
    rw [tree_at hi]
    simp only
    rw [tree_len]
    exact h1
  · rw [h2]
    have e : hitT k par 0 i ↔ nearT k par i = true := by
      unfold hitT nearT
      simp only [Nat.zero_le, true_and, Bool.or_eq_true, Bool.and_eq_true, decide_eq_true_eq]
    rw [e]
    simp
/-- two texts that rise, or one -/
theorem list_T {L : List Tx} {b : Bool} (hp : L.Pairwise (fun a b => a < b)) (hm : ∀ x, x ∈ L ↔ x = rT ∨ (x = sT ∧ b = true)) : L = if b then [rT, sT] else [rT] := by
  have hrs : rT < sT := by decide
  have irr : ∀ a : Tx, ¬ a < a := fun a h => absurd h (List.lt_irrefl a)
  cases b
  · have hm' : ∀ x, x ∈ L ↔ x = rT := fun x => by rw [hm x]; simp
    match L, hp, hm' with
    | [], _, h => exact absurd ((h rT).2 rfl) (by simp)
    | [x], _, h => rw [(h x).1 (by simp)]; rfl
    | x :: y :: r, hp, h =>
      exfalso
      have h3 := (List.pairwise_cons.1 hp).1 y (by simp)
      rw [(h x).1 (by simp), (h y).1 (by simp)] at h3
      exact irr _ h3
  · have hm' : ∀ x, x ∈ L ↔ x = rT ∨ x = sT := fun x => by rw [hm x]; simp
    match L, hp, hm' with
    | [], _, h => exact absurd ((h rT).2 (.inl rfl)) (by simp)
    | [x], _, h =>
      exfalso
      have h1 := (h rT).2 (.inl rfl)
      have h2 := (h sT).2 (.inr rfl)
      rw [List.mem_singleton] at h1 h2
      rw [← h1] at h2
      exact absurd h2 (by decide)
    | [x, y], hp, h =>
      have h3 := (List.pairwise_cons.1 hp).1 y (by simp)
      rcases (h x).1 (by simp) with hx | hx <;> rcases (h y).1 (by simp) with hy | hy
      · rw [hx, hy] at h3; exact absurd h3 (irr _)
      · rw [hx, hy]; rfl
      · rw [hx, hy] at h3; exact absurd h3 (by decide)
      · rw [hx, hy] at h3; exact absurd h3 (irr _)
    | x :: y :: z :: r, hp, h =>
      exfalso
      have h3 := (List.pairwise_cons.1 hp).1 y (by simp)
      have h4 := (List.pairwise_cons.1 hp).1 z (by simp)
      have h5 := (List.pairwise_cons.1 (List.pairwise_cons.1 hp).2).1 z (by simp)
      rcases (h x).1 (by simp) with hx | hx <;> rcases (h y).1 (by simp) with hy | hy <;> rcases (h z).1 (by simp) with hz | hz <;> rw [hx, hy] at h3 <;> rw [hx, hz] at h4 <;> rw [hy, hz] at h5 <;> revert h3 h4 h5 <;> decide
end Go.Proofs.Ytoijpjmkjhoiaaa
