/-
  A range over a function whose iterator writes memory of its own between two rounds (a row that it appends to): what the caller and the iterator owe. It speaks the kit's words (YieldAt, CallsIn, wpIn_rangeFunc); new is what the caller's facts must abide: a turn of whatever block was laid since the iterator's call began. No program.
-/
import Derived.Test.YtjpdadibeocpfaaDoorBase
import Derived.RangeFuncWrites
import Derived.RangeFuncNested
namespace Go.Proofs.YtjpdadibeocpfaaDoor
set_option linter.unusedVariables false
set_option linter.unusedSimpArgs false
open Go.RowKit
/-- a fact that no turn of a block from B on touches -/
def Stands {α : Type} (B : Nat) (J : List α → World → Prop) : Prop := ∀ s A C row, J s A → A.grownBy C row → (∀ r, row = some r → B ≤ r) → J s C
/-- what an iterator promises -/
def Gives {α : Type} (F : Fence) (n : Nat) (P : Program) (gf : Nat) (lb : Array Value) (encs : α → Array Value) (Kp : World → World → Prop) (S Sp : List α → Prop) (w : World) : Prop :=
  ∀ (l : Nat) (J Jx : List α → World → Prop) (W : World), Below w.heap.size w W → W.heap.size = w.heap.size + 2 → Stands W.heap.size J → Stands W.heap.size Jx →
    (∀ pre x A, J pre A → YieldAt F (n - 1) P l (encs x) A fun e C => (e = .returned (.bool true) ∧ J (pre ++ [x]) C ∧ Kp A C) ∨ (e = .returned (.bool false) ∧ Jx (pre ++ [x]) C)) →
    J [] W →
    CallsIn F n P gf (#[.func (.yield l) #[] #[]] ++ lb) W fun e C => (∃ v, e = .returned v) ∧ ((∃ xs, S xs ∧ J xs C) ∨ (∃ pre, Sp pre ∧ Jx pre C))
/-- a round's end, as the body's walk must reach it -/
def endsRound {α : Type} (B : Nat) (Kp : World → World → Prop) (I Ir : List α → World → Prop) (xs : List α) (A : World) : Exit → Act → World → Prop
  | .normal, _, C => KeepsFrom B A C ∧ Kp A C ∧ I xs C
  | .ret, _, C => KeepsFrom B A C ∧ Ir xs C
  | _, _, _ => False
theorem grown_put {A : World} {l : Nat} (o : Obj) : A.grownBy (A.putObj l o) (some l) := grownBy_putObj' A l o
/-- the law: a body that goes on or returns -/
theorem range_own {α : Type} {F : Fence} {n : Nat} {P : Program} {g : Operand} {ps : Array Tmp} {assign body : Code} {Q : Exit → Act → World → Prop} {a : Act} {w : World}
    (hro : F.round = none) (h1 : 1 ≤ n) {gf : Nat} {lb : Array Value} (hg : a.eval g = .func (.func gf) #[] lb) (hF : F.fn gf) (eg : ∀ args w, (callFunc gf args).run P w = .ok (.enter gf args) w)
    {encs : α → Array Value} {Kp : World → World → Prop} {S Sp : List α → Prop} (hseq : Gives F (n - 1) P gf lb encs Kp S Sp w) (hps : ∀ x, (encs x).size = ps.size)
    (hKt : ∀ {A B C : World}, Kp A B → Kp B C → Kp A C) (hKb : ∀ (A : World) (o : Obj), w.heap.size + 1 < A.heap.size → Kp A (A.putObj (w.heap.size + 1) o))
    (I Ir : List α → World → Prop) (hI : Stands w.heap.size I) (hIr : Stands w.heap.size Ir) (h0 : I [] w) (a₁ : α → Act)
    (hassign : ∀ (l : Nat) (x : α) (W : World) (K : Act → World → Prop), K (a₁ x) W →
      assign.wpIn (F.inRound l) (n - 1 - 1) P (Exit.then K (fun _ _ _ => False)) { tmps := (ps.zip (encs x)).foldl (fun t (p, v) => t.setIfInBounds p v) a.tmps, defers := [] } W)
    (hbody : ∀ (l : Nat) (pre : List α) (x : α) (W : World), I pre W → body.wpIn (F.inRound l) (n - 1 - 1) P (endsRound w.heap.size Kp I Ir (pre ++ [x]) W) (a₁ x) W)
    (hdone : ∀ (xs : List α) (W : World), S xs → I xs W → W.heap[w.heap.size]? = some (.deferred (some [])) → Q .normal { a with defers := { target := .collected w.heap.size, args := #[] } :: a.defers } W)
    (hstop : ∀ (pre : List α) (W : World), Sp pre → Ir pre W → W.heap[w.heap.size]? = some (.deferred (some [])) → Code.ret.wpIn F n P Q { a with defers := { target := .collected w.heap.size, args := #[] } :: a.defers } W) :
    (Code.rangeFunc g ps assign body).wpIn F n P Q a w := by
  refine wpIn_rangeFunc ?_
  intro fn hfn
  rw [hro]
  generalize hD : w.heap.size = D at *
  let rec' : LoopState → Option Code → Loop := fun st pe => { state := st, pending := pe, fn, tmps := a.tmps, params := ps, assign, body, defers := D }
  let W1 : World := (w.alloc (.deferred (some []))).alloc (.loop (rec' .ready none))
  have sz1 : W1.heap.size = D + 2 := by simp [W1, hD]
  have hl1 : W1.heap[D + 1]? = some (.loop (rec' .ready none)) := by
    have := World.alloc_heap_new (w.alloc (.deferred (some []))) (.loop (rec' .ready none))
    rwa [World.size_alloc, hD] at this
  have hd1 : W1.heap[D]? = some (.deferred (some [])) := by
    have := World.alloc_heap_new w (.deferred (some []))
    rw [hD] at this
    exact (Below.heap_alloc _ _ _ (by simp [hD])).trans this
  have hB1 : Below D w W1 := by
    have := ((Below.refl w.heap.size w).alloc (Nat.le_refl _) (.deferred (some []))).alloc (by simp) (.loop (rec' .ready none))
    rwa [hD] at this
  have up : ∀ {J : List α → World → Prop}, Stands D J → ∀ s A, J s A → ∀ o, J s (A.putObj (D + 1) o) := fun hJ s A h o => hJ s A _ _ h (grown_put o) (fun r e => by cases e; omega)
  have hI1 : I [] W1 := hI [] _ _ none (hI [] _ _ none h0 (World.grownBy_alloc _ _ _) (fun _ e => by cases e)) (World.grownBy_alloc _ _ _) (fun _ e => by cases e)
  refine ⟨D + 1, [{ target := .collected D, args := #[] }], W1, { target := .fn (.func gf) lb, args := #[.func (.yield (D + 1)) #[] #[]] }, W1, gf, #[.func (.yield (D + 1)) #[] #[]] ++ lb, W1, ?_, ?_, ?_, ?_, fun _ => h1, ?_⟩
  · have := run_enterLoop_outer (P := P) (w := w) fn a.tmps ps assign body
    rw [hD] at this
    exact this
  · simp only [resolve, hg]
    simp [go_sem]
  · intro f' hf'
    simp [Target.leads] at hf'
    exact hf' ▸ hF
  · simp [invoke, go_sem, eg]
  · have kept : ∀ {A C : World} {row : Option Nat} {k : Nat} {o : Obj}, A.heap[k]? = some o → A.grownBy C row → (∀ r, row = some r → W1.heap.size ≤ r) → k < D + 2 → C.heap[k]? = some o := fun hk hg' hr hlt =>
      (hg'.block _ (Array.getElem?_eq_some_iff.1 hk).1 (fun e => by have := hr _ e.symm; omega)).trans hk
    refine (hseq (D + 1) (fun pre W => I pre W ∧ W.heap[D + 1]? = some (.loop (rec' .ready none)) ∧ W.heap[D]? = some (.deferred (some [])))
      (fun pre W => Ir pre W ∧ W.heap[D + 1]? = some (.loop (rec' .done (some .ret))) ∧ W.heap[D]? = some (.deferred (some []))) W1 (by rw [hD]; exact hB1) (by rw [hD]; exact sz1)
      (fun s A C row h hg' hr => ⟨hI s A C row h.1 hg' (fun r e => by have := hr r e; omega), kept h.2.1 hg' hr (by omega), kept h.2.2 hg' hr (by omega)⟩)
      (fun s A C row h hg' hr => ⟨hIr s A C row h.1 hg' (fun r e => by have := hr r e; omega), kept h.2.1 hg' hr (by omega), kept h.2.2 hg' hr (by omega)⟩)
      ?_ ⟨hI1, hl1, hd1⟩).mono ?_
    · rintro pre x W ⟨hi, hl, hk⟩
      have hlt : D + 1 < W.heap.size := (Array.getElem?_eq_some_iff.1 hl).1
      refine ⟨fn, _, assign, body, run_yield (P := P) (args := encs x) hl (hps x), roundIn_of_wpIn hfn (hassign _ x W _ ⟨_, run_beginRound hl rfl, ?_⟩)⟩
      let W2 : World := W.putObj (D + 1) (.loop { rec' .ready none with state := .busy })
      have hl2 : W2.heap[D + 1]? = some (.loop { rec' .ready none with state := .busy }) := World.putObj_heap_same hlt
      have hk2 : W2.heap[D]? = some (.deferred (some [])) := (World.putObj_heap_other (by omega)).trans hk
      refine wpIn_mono (hbody _ pre x W2 (up hI _ _ hi _)) ?_
      rintro e a3 W3 hp
      cases e with
      | normal =>
        obtain ⟨hk3, hkp3, hi3⟩ := hp
        have hl3 := hk3.same _ _ (by omega) hl2 rfl
        have hd3 := hk3.same _ _ (Nat.le_refl _) hk2 rfl
        have hlt3 := (Array.getElem?_eq_some_iff.1 hl3).1
        exact ⟨_, _, run_endRound (P := P) none hl3, .inl ⟨rfl, ⟨up hI _ _ hi3 _, World.putObj_heap_same hlt3, (World.putObj_heap_other (by omega)).trans hd3⟩, hKt (hKt (hKb W _ hlt) hkp3) (hKb W3 _ hlt3)⟩⟩
      | ret =>
        obtain ⟨hk3, hi3⟩ := hp
        have hl3 := hk3.same _ _ (by omega) hl2 rfl
        have hd3 := hk3.same _ _ (Nat.le_refl _) hk2 rfl
        have hlt3 := (Array.getElem?_eq_some_iff.1 hl3).1
        exact ⟨_, _, run_endRound (P := P) (some .ret) hl3, .inr ⟨rfl, up hIr _ _ hi3 _, World.putObj_heap_same hlt3, (World.putObj_heap_other (by omega)).trans hd3⟩⟩
      | exit id => exact hp.elim
      | goto t => exact hp.elim
      | panic ch => exact hp.elim
      | outgrown => exact hp.elim
    · rintro e W2 ⟨⟨v, rfl⟩, (⟨xs, hS, hi, hl, hk⟩ | ⟨pre, hSp, hi, hl, hk⟩)⟩
      · exact ⟨none, _, run_endLoop (P := P) hl (by simp [rec']), hdone xs _ hS (up hI _ _ hi _) ((World.putObj_heap_other (by omega)).trans hk)⟩
      · exact ⟨some .ret, _, run_endLoop (P := P) hl (by simp [rec']), hstop pre _ hSp (up hIr _ _ hi _) ((World.putObj_heap_other (by omega)).trans hk)⟩
end Go.Proofs.YtjpdadibeocpfaaDoor
