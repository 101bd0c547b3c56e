/-
  Who is told of a node (plain): upwards through the collections. No program's text, no condition.
-/
import Derived.Test.YtoijpjmkjhoiaaaFnPure
namespace Go.Proofs.Ytoijpjmkjhoiaaa
set_option linter.unusedVariables false
set_option linter.unusedSimpArgs false
open Go.RowKit Go.MapKept
def idxN (l : List Nd) (x : Tx) : Option Nat := l.findIdx? fun n => n.nm == x
def farB (d : Nat) (dep : Int) : Bool := decide (0 < d) && (dep != 0) && decide (dep < (d : Int))
def tellN (n : Nd) (d : Nat) (s : Tx × Bool × Int) : Bool := !s.2.1 && !farB d s.2.2 && readsN n s.1
def toldN (n : Nd) (d : Nat) (sb : List (Tx × Bool × Int)) (T : List Tx) : List Tx := sb.foldl (fun T s => if tellN n d s then s.1 :: T else T) T
def upN (l : List Nd) (n : Nd) : Nat → Nat → Nat → List Tx → List Tx → Option (List Tx)
  | 0, _, _, _, _ => none
  | g + 1, i, d, S, T => match l[i]? with
    | none => none
    | some x => match idxN l x.pa with
      | none => some (toldN n d x.sb T)
      | some j => if x.pa = [] ∨ (x.nm :: S).contains x.pa = true then some (toldN n d x.sb T) else upN l n g j (d + 1) (x.nm :: S) (toldN n d x.sb T)
def fanN (l : List Nd) (x : Tx) : Option (List Tx) := match idxN l x with
  | none => some []
  | some i => match l[i]? with
    | none => none
    | some n => upN l n (l.length + 1) i 0 [] []
theorem idx_lt {l : List Nd} {x : Tx} {i : Nat} (h : idxN l x = some i) : ∃ hi : i < l.length, (l[i]'hi).nm = x := by
  unfold idxN at h
  obtain ⟨hi, h1, -⟩ := List.findIdx?_eq_some_iff_getElem.1 h
  exact ⟨hi, by simpa using h1⟩
theorem idx_step {l : List Nd} {k : Nat} (hk : k < l.length) (x : Tx) : idxN (l.take (k + 1)) x = match idxN (l.take k) x with | some i => some i | none => if (l[k]'hk).nm = x then some k else none := by
  unfold idxN
  rw [List.take_add_one, List.getElem?_eq_getElem hk, List.findIdx?_append]
  cases h : List.findIdx? (fun n => n.nm == x) (l.take k) with
  | some i => rfl
  | none =>
    simp only [Option.toList_some, Option.none_or]
    have hl : (l.take k).length = k := by rw [List.length_take]; omega
    by_cases e : (l[k]'hk).nm = x
    · simp [List.findIdx?_cons, e, hl]
    · simp [List.findIdx?_cons, e]
theorem told_step {n : Nd} {d : Nat} {sb : List (Tx × Bool × Int)} {k : Nat} (hk : k < sb.length) (T : List Tx) : toldN n d (sb.take (k + 1)) T = if tellN n d (sb[k]'hk) then (sb[k]'hk).1 :: toldN n d (sb.take k) T else toldN n d (sb.take k) T := by
  unfold toldN
  rw [List.take_add_one, List.getElem?_eq_getElem hk, List.foldl_append]
  rfl
theorem told_len (n : Nd) (d : Nat) (sb : List (Tx × Bool × Int)) (T : List Tx) : (toldN n d sb T).length ≤ T.length + sb.length := by
  unfold toldN
  induction sb generalizing T with
  | nil => simp
  | cons s r ih =>
    rw [List.foldl_cons]
    refine Nat.le_trans (ih _) ?_
    split <;> simp <;> omega
end Go.Proofs.Ytoijpjmkjhoiaaa
