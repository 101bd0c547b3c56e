/-
  Whole elements one behind the other (plain).
-/
import Derived.Test.YtfmheobofikkmaaWrPrintPure
namespace Go.Proofs.Ytfmheobofikkmaa
set_option linter.unusedVariables false
set_option linter.unusedSimpArgs false
theorem prevK_app {a b : List Tk} {k : Nat} (h : k ≤ a.length) : prevK (a ++ b) k = prevK a k := by
  unfold prevK
  split
  · rfl
  · rw [List.getElem?_append_left (by omega)]
theorem opsTo_app {a b : List Tk} : ∀ k, k ≤ a.length → opsTo (a ++ b) k = opsTo a k
  | 0, _ => rfl
  | k + 1, h => by
    rw [opsTo, opsTo, opsTo_app k (by omega), prevK_app (by omega), List.getElem?_append_left (by omega)]
theorem stepT_nil (p q : Int) (tk : Tk) : stepT p [] tk = stepT q [] tk := by
  unfold stepT
  simp
theorem opsTo_join {a b : List Tk} (ha : opsTo a a.length = some []) : ∀ j, opsTo (a ++ b) (a.length + j) = opsTo b j
  | 0 => by rw [Nat.add_zero, opsTo_app _ (Nat.le_refl _), ha]; rfl
  | j + 1 => by
    rw [← Nat.add_assoc, opsTo, opsTo_join ha j, opsTo, List.getElem?_append_right (by omega), show a.length + j - a.length = j by omega]
    cases j with
    | zero =>
      show (match some ([] : List (List UInt8)), b[0]? with | some op, some tk => stepT _ op tk | _, _ => none) = (match some ([] : List (List UInt8)), b[0]? with | some op, some tk => stepT _ op tk | _, _ => none)
      cases b[0]? with
      | none => rfl
      | some tk => exact stepT_nil _ _ tk
    | succ j =>
      have e : prevK (a ++ b) (a.length + (j + 1)) = prevK b (j + 1) := by
        unfold prevK
        rw [if_neg (by omega), if_neg (by omega), List.getElem?_append_right (by omega), show a.length + (j + 1) - 1 - a.length = j + 1 - 1 by omega]
      rw [e]
theorem right_ops {l : List Tk} (h : rightL l = true) : opsTo l l.length = some [] := by
  simp [rightL] at h
  exact h.2
theorem whole_right {l : List Tk} (h : wholeL l = true) : rightL l = true ∧ 0 < l.length ∧ ∀ j, j < l.length - 1 → opsTo l (j + 1) ≠ some [] := by
  simp only [wholeL, Bool.and_eq_true, Bool.not_eq_true', decide_eq_true_eq] at h
  refine ⟨h.1.1, ?_, h.2⟩
  cases l with
  | nil => exact absurd h.1.2 (by simp)
  | cons x r => simp
theorem join_right {a b : List Tk} (ha : rightL a = true) (hb : rightL b = true) (h64 : a.length + b.length ≤ 64) : rightL (a ++ b) = true := by
  unfold rightL
  rw [List.length_append, opsTo_join (right_ops ha) b.length, right_ops hb]
  simpa using h64
theorem join_whole {a b : List Tk} (ha : wholeL a = true) (hb : wholeL b = true) : wholeL (a ++ b) = false := by
  obtain ⟨ra, la, _⟩ := whole_right ha
  obtain ⟨_, lb, _⟩ := whole_right hb
  cases h : wholeL (a ++ b) with
  | false => rfl
  | true =>
    obtain ⟨_, _, hw⟩ := whole_right h
    refine absurd ?_ (hw (a.length - 1) (by rw [List.length_append]; omega))
    rw [show a.length - 1 + 1 = a.length by omega, opsTo_app _ (Nat.le_refl _), right_ops ra]
/-- printed each by itself -/
theorem print_app (b : List Tk) : ∀ (n : Nat) (a : List Tk), a.length ≤ n → (∀ i (h : i < a.length), (a[i]'h).k ≠ 3 → (a[i]'h).k ≠ 2 → i + 1 < a.length) → printR (a ++ b) = printR a ++ printR b
  | _, [], _, _ => by simp [printR]
  | 0, x :: r, h, _ => by simp at h
  | n + 1, tk :: r, hn, h => by
    have hn' : r.length ≤ n := by simpa using hn
    have hr : ∀ i (h' : i < r.length), (r[i]'h').k ≠ 3 → (r[i]'h').k ≠ 2 → i + 1 < r.length := fun i h' hk hl => by
      have := h (i + 1) (by simpa using h') hk hl
      simpa using this
    have ih := print_app b n r hn' hr
    obtain ⟨k, nm, al, t⟩ := tk
    rw [List.cons_append, printR.eq_def, printR.eq_def (⟨k, nm, al, t⟩ :: r)]
    simp only
    split
    · rw [ih, List.append_assoc]
    split
    · rw [ih]; simp only [List.append_assoc]
    · rename_i h3 h2
      cases r with
      | nil =>
        exact absurd (h 0 (by simp) h3 h2) (by simp)
      | cons e r' =>
        simp only [List.cons_append]
        have hr' : ∀ i (h' : i < r'.length), (r'[i]'h').k ≠ 3 → (r'[i]'h').k ≠ 2 → i + 1 < r'.length := fun i h' hk hl => by
          have := hr (i + 1) (by simpa using h') hk hl
          simpa using this
        have ih' := print_app b n r' (by simp at hn'; omega) hr'
        rw [List.cons_append] at ih
        split
        · rw [ih']; simp [List.append_assoc]
        · rw [ih]; simp [List.append_assoc]
theorem right_mid {a : List Tk} (h : rightL a = true) : ∀ i (h : i < a.length), (a[i]'h).k ≠ 3 → (a[i]'h).k ≠ 2 → i + 1 < a.length := fun i hi h3 h2 => by
  have ho := right_ops h
  have hk := right_kind (right_each (by rw [ho]; rfl) i hi)
  exact right_next ho i hi (by rcases hk with hk | hk | hk; exact hk; exact absurd hk h2; exact absurd hk h3)
theorem print_join {a b : List Tk} (h : rightL a = true) : printR (a ++ b) = printR a ++ printR b := print_app b a.length a (Nat.le_refl _) (right_mid h)
theorem atsL_len {al : Ats} (h : ∀ p ∈ al, p.1.length ≤ 32 ∧ p.2.length ≤ 512) : (atsL al).length ≤ al.length * 4000 := by
  induction al with
  | nil => simp [atsL]
  | cons p r ih =>
    have h1 := h p (by simp)
    have h2 := escL_len p.2
    have h3 : (atP p).length = p.1.length + (escL p.2).length + 4 := by simp [atP]; omega
    have h4 := ih (fun q hq => h q (List.mem_cons_of_mem _ hq))
    simp only [atsL, List.flatMap_cons, List.length_append, List.length_cons] at h4 ⊢
    omega
theorem print_len_of : ∀ (n : Nat) (a : List Tk), a.length ≤ n → (∀ tk ∈ a, tk.n.length ≤ 32 ∧ tk.t.length ≤ 512 ∧ tk.as.length ≤ 8 ∧ ∀ p ∈ tk.as, p.1.length ≤ 32 ∧ p.2.length ≤ 512) → (printR a).length ≤ a.length * 100000
  | _, [], _, _ => by simp [printR]
  | 0, x :: r, h, _ => by simp at h
  | n + 1, tk :: r, hn, h => by
    have hn' : r.length ≤ n := by simpa using hn
    have ih := print_len_of n r hn' (fun t ht => h t (List.mem_cons_of_mem _ ht))
    obtain ⟨h1, h2, h3, h4⟩ := h tk (by simp)
    have h5 := atsL_len h4
    have h6 := escL_len tk.t
    rw [printR.eq_def]
    simp only
    split
    · simp only [List.length_append, List.length_cons] ; omega
    split
    · simp only [List.length_append, List.length_cons, List.length_nil] ; omega
    · cases r with
      | nil => simp only [List.length_append, List.length_cons, List.length_nil] ; omega
      | cons e r' =>
        simp only
        have ih' := print_len_of n r' (by simp at hn'; omega) (fun t ht => h t (List.mem_cons_of_mem _ (List.mem_cons_of_mem _ ht)))
        split
        · simp only [List.length_append, List.length_cons, List.length_nil] ; omega
        · simp only [List.length_append, List.length_cons, List.length_nil] at ih ⊢ ; omega
theorem print_len {a : List Tk} (h : rightL a = true) : (printR a).length ≤ 6400000 := by
  have h64 : a.length ≤ 64 := by simp [rightL] at h; exact h.1
  have ho := right_ops h
  have := print_len_of a.length a (Nat.le_refl _) (fun tk ht => by
    obtain ⟨i, hi, rfl⟩ := List.getElem_of_mem ht
    exact right_small (right_each (by rw [ho]; rfl) i hi))
  omega
end Go.Proofs.Ytfmheobofikkmaa
