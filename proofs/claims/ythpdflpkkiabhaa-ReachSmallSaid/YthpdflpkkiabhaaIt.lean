/-
  A range over an iterator that turns blocks of its own while it runs: what the iterator and the loop's body owe each other. No condition.
-/
import Derived.Test.YthpdflpkkiabhaaBa
import Derived.RangeFuncNested
import Derived.RangeFuncBound
import Derived.RangeFuncCalls
import Derived.RangeFuncLeaves
namespace Go.Proofs.Ythpdflpkkiabhaa
open Go.RowKit
set_option linter.unusedVariables false
theorem Keeps.putObj {S : Nat → Prop} {a w : World} (h : Keeps S a w) {r : Nat} (hr : S r ∨ a.heap.size ≤ r) (o : Obj) : Keeps S a (w.putObj r o) :=
  ⟨h.os, h.tape, h.output, by simpa using h.size, fun k hk hs => (World.putObj_heap_other (fun e => by
    subst e
    rcases hr with hr | hr
    · exact hs hr
    · omega)).trans (h.block k hk hs)⟩
/-- The iterator g hands over xs, one by one; it turns no block of the loop's (S0, and whatever is new and is the loop's own). -/
def Hands {α : Type} (n : Nat) (g : Nat) (lb : Array Value) (encs : α → Array Value) (S0 : Nat → Prop) (xs : List α) (w0 : World) : Prop :=
  ∀ (l : Nat) (J : List α → (Nat → Prop) → World → Prop) (T0 : Nat → Prop) (W : World), Keeps Non w0 W → (∀ k, T0 k → (S0 k ∨ w0.heap.size ≤ k) ∧ k < W.heap.size) →
    (∀ pre T A B, J pre T A → Keeps (fun k => ¬ T k ∧ W.heap.size ≤ k) A B → J pre T B) →
    (∀ pre x T A, pre ++ [x] <+: xs → J pre T A → (∀ k, T k → k < A.heap.size) → YieldAt Fence.wide (n - 1) Try.prog l (encs x) A fun e B =>
      e = .returned (.bool true) ∧ ∃ T', J (pre ++ [x]) T' B ∧ Keeps T A B ∧ ∀ k, T' k → (T k ∨ A.heap.size ≤ k) ∧ k < B.heap.size) →
    J [] T0 W →
    CallsIn Fence.wide n Try.prog g (#[.func (.yield l) #[] #[]] ++ lb) W fun e W' => (∃ v, e = .returned v) ∧ ∃ T, J xs T W' ∧ Keeps T0 W W' ∧ ∀ k, T k → (T0 k ∨ W.heap.size ≤ k) ∧ k < W'.heap.size
/-- How a round of such a loop may be left: S' are then the loop's blocks. -/
def HPost {α : Type} (I : List α → (Nat → Prop) → World → Prop) (xs : List α) (S : Nat → Prop) (A : World) : Exit → Act → World → Prop
  | .normal, _, B => ∃ S', I xs S' B ∧ Keeps S A B ∧ ∀ k, S' k → (S k ∨ A.heap.size ≤ k) ∧ k < B.heap.size
  | _, _, _ => False
theorem wpIn_hands {α : Type} {n : Nat} {g : Operand} {ps : Array Tmp} {assign body : Code} {Q : Exit → Act → World → Prop} {a : Act} {w : World}
    (h1 : 1 ≤ n) {gf : Nat} {lb : Array Value} (hg : a.eval g = .func (.func gf) #[] lb) (eg : Ent gf)
    {encs : α → Array Value} {S0 : Nat → Prop} {xs : List α} (hseq : Hands (n - 1) gf lb encs S0 xs w) (hps : ∀ x, (encs x).size = ps.size)
    (I : List α → (Nat → Prop) → World → Prop) (hS0 : ∀ k, S0 k → k < w.heap.size) (hI : ∀ pre S A B, I pre S A → Keeps (fun k => ¬ S k ∧ w.heap.size ≤ k) A B → I pre S B) (h0 : I [] S0 w) (a₁ : α → Act)
    (hassign : ∀ (l : Nat) (x : α) (W : World) (K : Act → World → Prop), K (a₁ x) W →
      assign.wpIn (Fence.wide.inRound l) (n - 1 - 1) Try.prog (Exit.then K (fun _ _ _ => False)) { tmps := (ps.zip (encs x)).foldl (fun t (p, v) => t.setIfInBounds p v) a.tmps, defers := [] } W)
    (hbody : ∀ (l : Nat) (pre : List α) (x : α) (S : Nat → Prop) (A : World), pre ++ [x] <+: xs → I pre S A → (∀ k, S k → k < A.heap.size ∧ (S0 k ∨ w.heap.size ≤ k)) → Keeps S0 w A → body.wpIn (Fence.wide.inRound l) (n - 1 - 1) Try.prog (HPost I (pre ++ [x]) S A) (a₁ x) A)
    (hdone : ∀ (D : Nat) (S : Nat → Prop) (W : World), w.heap.size ≤ D → I xs S W → Keeps S0 w W → (∀ k, S k → k < W.heap.size ∧ (S0 k ∨ w.heap.size ≤ k) ∧ k ≠ D) → W.heap[D]? = some (.deferred (some [])) → Q .normal { a with defers := { target := .collected D, args := #[] } :: a.defers } W) :
    (Code.rangeFunc g ps assign body).wpIn Fence.wide n Try.prog Q a w := by
  refine wpIn_rangeFunc ?_
  intro fn hfn
  obtain ⟨rec, hrec⟩ : ∃ rec : LoopState → Loop, rec = fun st => { state := st, pending := none, fn, tmps := a.tmps, params := ps, assign, body, defers := w.heap.size } := ⟨_, rfl⟩
  obtain ⟨W1, hW1⟩ : ∃ W1, (w.alloc (.deferred (some []))).alloc (.loop (rec .ready)) = W1 := ⟨_, rfl⟩
  have hL1 : W1.heap[w.heap.size + 1]? = some (.loop (rec .ready)) := by
    rw [← hW1]; have := World.alloc_heap_new (w.alloc (.deferred (some []))) (.loop (rec .ready)); rwa [World.size_alloc] at this
  have hK1 : W1.heap[w.heap.size]? = some (.deferred (some [])) := by
    rw [← hW1]; exact (Below.heap_alloc _ _ _ (by simp)).trans (World.alloc_heap_new w _)
  have hkn : Keeps Non w W1 := by rw [← hW1]; exact ((Keeps.refl _ w).alloc _).alloc _
  have hsz : W1.heap.size = w.heap.size + 2 := by rw [← hW1]; simp
  have hI1 : I [] S0 W1 := hI _ _ _ _ h0 (hkn.weak (fun _ _ h => h.elim))
  obtain ⟨D, hD⟩ : ∃ D, w.heap.size = D := ⟨_, rfl⟩
  refine ⟨w.heap.size + 1, [{ target := .collected w.heap.size, args := #[] }], W1, { target := .fn (.func gf) lb, args := #[.func (.yield (w.heap.size + 1)) #[] #[]] }, W1, gf,
    #[.func (.yield (w.heap.size + 1)) #[] #[]] ++ lb, W1, ?_, ?_, ?_, ?_, fun _ => h1, ?_⟩
  · rw [← hW1, hrec]; exact run_enterLoop_outer _ _ _ _ _
  · simp only [resolve, hg]
    simp [go_sem]
  · intro f' hf'; exact trivial
  · simp [invoke, go_sem, eg _ _]
  · rw [hD] at hL1 hK1 hsz ⊢
    refine (hseq (D + 1) (fun pre T A => ∃ S, I pre S A ∧ (∀ k, T k ↔ S k ∨ k = D ∨ k = D + 1) ∧ (∀ k, S k → k < A.heap.size ∧ (S0 k ∨ D ≤ k) ∧ k ≠ D ∧ k ≠ D + 1) ∧ Keeps S0 w A ∧ A.heap[D + 1]? = some (.loop (rec .ready)) ∧ A.heap[D]? = some (.deferred (some [])))
      (fun k => S0 k ∨ k = D ∨ k = D + 1) W1 hkn ?_ ?_ ?_ ⟨S0, hI1, fun k => Iff.rfl, fun k hk => ?_, hkn.weak (fun _ _ h => h.elim), hL1, hK1⟩).mono ?_
    · intro k hk
      rw [hD]
      rcases hk with hk | rfl | rfl
      · have := hS0 k hk; exact ⟨.inl hk, by omega⟩
      · exact ⟨.inr (Nat.le_refl _), by omega⟩
      · exact ⟨.inr (by omega), by omega⟩
    · rintro pre T A B ⟨S, hi, hT, hS, hkA, hl, hk⟩ hAB
      have lD := (Array.getElem?_eq_some_iff.1 hk).1
      have lL := (Array.getElem?_eq_some_iff.1 hl).1
      refine ⟨S, hI _ _ _ _ hi (hAB.weak (fun k _ h => ⟨fun e => h.1 ((hT k).2 (.inl e)), by have := h.2; omega⟩)), hT, fun k h => ⟨Nat.lt_of_lt_of_le (hS k h).1 hAB.size, (hS k h).2⟩, hkA.trans hAB (fun k hkw h => by have := h.2; omega),
        (hAB.block _ lL (fun h => h.1 ((hT _).2 (.inr (.inr rfl))))).trans hl, (hAB.block _ lD (fun h => h.1 ((hT _).2 (.inr (.inl rfl))))).trans hk⟩
    · rintro pre x T W hpre ⟨S, hi, hT, hS, hkA, hl, hk⟩ hTl
      have lL := (Array.getElem?_eq_some_iff.1 hl).1
      have lD := (Array.getElem?_eq_some_iff.1 hk).1
      have hy := run_yield (P := Try.prog) (args := encs x) hl (by rw [hrec]; exact hps x)
      rw [hrec] at hy
      refine ⟨fn, _, assign, body, hy, roundIn_of_wpIn hfn (hassign _ x W _ ⟨_, run_beginRound hl (by rw [hrec]), ?_⟩)⟩
      obtain ⟨W2, hW2⟩ : ∃ W2, W.putObj (D + 1) (.loop { rec .ready with state := .busy }) = W2 := ⟨_, rfl⟩
      have hl2 : W2.heap[D + 1]? = some (.loop { rec .ready with state := .busy }) := by rw [← hW2]; exact World.putObj_heap_same lL
      have hk2 : W2.heap[D]? = some (.deferred (some [])) := by rw [← hW2]; exact (World.putObj_heap_other (by omega)).trans hk
      have sz2 : W2.heap.size = W.heap.size := by rw [← hW2]; simp
      have nS : ¬ S (D + 1) := fun h => (hS _ h).2.2.2 rfl
      have hi2 : I pre S W2 := by
        rw [← hW2]
        exact hI _ _ _ _ hi (Keeps.putObj (Keeps.refl _ _) (.inl ⟨nS, by omega⟩) _)
      have hkw2 : Keeps S0 w W2 := by rw [← hW2]; exact hkA.putObj (.inr (by omega)) _
      have hWW2 : Keeps T W W2 := by rw [← hW2]; exact Keeps.putObj (Keeps.refl _ _) (.inl ((hT _).2 (.inr (.inr rfl)))) _
      rw [hW2]
      refine wpIn_mono (hbody _ pre x S W2 hpre hi2 (fun k h => ⟨by rw [sz2]; exact (hS k h).1, by rw [hD]; exact (hS k h).2.1⟩) hkw2) ?_
      rintro e a3 W3 hp
      cases e with
      | normal =>
        obtain ⟨S', hi3, hk3, hS3⟩ := hp
        have lL2 : D + 1 < W2.heap.size := by omega
        have hl3 : W3.heap[D + 1]? = some (.loop { rec .ready with state := .busy }) := (hk3.block _ lL2 nS).trans hl2
        have hd3 : W3.heap[D]? = some (.deferred (some [])) := (hk3.block _ (by omega) (fun h => (hS _ h).2.2.1 rfl)).trans hk2
        have hr := run_endRound (P := Try.prog) none hl3
        have lL3 := (Array.getElem?_eq_some_iff.1 hl3).1
        have hS4 : ∀ k, S' k → k < W3.heap.size ∧ (S0 k ∨ D ≤ k) ∧ k ≠ D ∧ k ≠ D + 1 := fun k h => by
          obtain ⟨h4, h5⟩ := hS3 k h
          refine ⟨h5, ?_⟩
          rcases h4 with h4 | h4
          · exact (hS k h4).2
          · exact ⟨.inr (by omega), by omega, by omega⟩
        have nS' : ¬ S' (D + 1) := fun h => (hS4 _ h).2.2.2 rfl
        rw [hrec] at hr
        refine ⟨_, _, hr, rfl, fun k => S' k ∨ k = D ∨ k = D + 1, ⟨S', hI _ _ _ _ hi3 (Keeps.putObj (Keeps.refl _ _) (.inl ⟨nS', by omega⟩) _), fun k => Iff.rfl, fun k h => ⟨by simpa using (hS4 k h).1, (hS4 k h).2⟩, ?_, ?_, ?_⟩, ?_, ?_⟩
        · refine Keeps.putObj (hkw2.trans hk3 (fun k hkw h => ?_)) (.inr (by omega)) _
          rcases (hS k h).2.1 with h | h
          · exact h
          · omega
        · rw [hrec]
          exact World.putObj_heap_same lL3
        · exact (World.putObj_heap_other (by omega)).trans hd3
        · refine Keeps.putObj (hWW2.then (hk3.weak (fun k _ h => (hT k).2 (.inl h)))) (.inl ((hT _).2 (.inr (.inr rfl)))) _
        · intro k h
          simp only [World.putObj_size]
          rcases h with h | rfl | rfl
          · refine ⟨?_, (hS3 k h).2⟩
            rcases (hS3 k h).1 with h4 | h4
            · exact .inl ((hT k).2 (.inl h4))
            · exact .inr (by omega)
          · exact ⟨.inl ((hT _).2 (.inr (.inl rfl))), (Array.getElem?_eq_some_iff.1 hd3).1⟩
          · exact ⟨.inl ((hT _).2 (.inr (.inr rfl))), lL3⟩
      | ret => exact hp.elim
      | exit id => exact hp.elim
      | goto t => exact hp.elim
      | panic ch => exact hp.elim
      | outgrown => exact hp.elim
    · have := hS0 k hk
      exact ⟨by omega, .inl hk, by omega, by omega⟩
    · rintro e W2 ⟨⟨v, rfl⟩, T, ⟨S, hi, hT, hS, hkA, hl, hk⟩, hk2, hT2⟩
      have lL := (Array.getElem?_eq_some_iff.1 hl).1
      have nS : ¬ S (D + 1) := fun h => (hS _ h).2.2.2 rfl
      have hr := run_endLoop (P := Try.prog) hl (by rw [hrec]; simp)
      rw [hrec] at hr
      refine ⟨none, _, hr, ?_⟩
      refine hdone D S _ (by omega) (hI _ _ _ _ hi (Keeps.putObj (Keeps.refl _ _) (.inl ⟨nS, by omega⟩) _)) (hkA.putObj (.inr (by omega)) _) (fun k h => ?_) ((World.putObj_heap_other (by omega)).trans hk)
      obtain ⟨h1, h2, h3, h4⟩ := hS k h
      exact ⟨by simpa using h1, by rw [hD]; exact h2, h3⟩
end Go.Proofs.Ythpdflpkkiabhaa
