/-
  A copy; few rows; few, off the row's own reading. No condition.
-/
import Derived.Test.YthpdflpkkiabhaaXa
import Derived.Test.YthpdflpkkiabhaaCp
import Derived.Test.YthpdflpkkiabhaaOq
namespace Go.Proofs.Ythpdflpkkiabhaa
open Go.RowKit
attribute [local go_sem] onto_cell onto_frozen
set_option linter.unusedVariables false
theorem y_copied (a : Option Addr) (n cap : Nat) (next : List (List Int)) (w : World) (h : Rows w a n next) (hn : n ≤ 100000) (hl : ∀ i, (next.getD i []).length ≤ 1000000) :
    Calls Try.prog 38 #[.slice a n cap] w fun e w' => ∃ b c, e = .returned (.slice b n c) ∧ Rows w' b n next ∧ Keeps Non w w' :=
  (copied_l a n cap next w h hn hl).mono fun e w' ⟨v, he, b, c, hv, hR, hk⟩ => by
    subst hv
    rw [h.len] at hR he
    exact ⟨b, c, he, hR, hk⟩
theorem row_small {next : List (List Int)} (h : total next ≤ 200) : ∀ i, (next.getD i []).length ≤ 200 := fun i => by
  by_cases hi : i < next.length
  · have h1 := total_take_succ (next := next) (k := i) hi
    have h2 := total_take_le next (i + 1)
    omega
  · rw [List.getD_eq_getElem?_getD, List.getElem?_eq_none (by omega)]
    simp
theorem few_r (a : Option Addr) (n cap : Nat) (next : List (List Int)) (w : World) (h : RowsR w a n cap next) :
    Calls Try.prog 32 #[.slice a n cap] w fun e w' => e = .returned (.bool (fewB next)) ∧ Keeps Non w w' := by
  refine few_l a n cap next w h.rows.len ?_ (fun i => ?_) h.room h.nilCap
  · by_cases h0 : n = 0
    · exact .inl h0
    · obtain ⟨b, off, ha, hb, hc⟩ := h.rows.at (by omega)
      exact .inr ⟨b, off, ha, hb, fun i hi => by obtain ⟨ai, ci, h1, _⟩ := hc i hi; exact ⟨ai, ci, h1⟩⟩
  · by_cases hi : i < n
    · obtain ⟨b, off, ha, hb, hc⟩ := h.rows.at (by omega)
      obtain ⟨ai, ci, h1, h2⟩ := hc i hi
      exact h2.big
    · rw [List.getD_eq_getElem?_getD, List.getElem?_eq_none (by rw [h.rows.len]; omega)]
      simp
end Go.Proofs.Ythpdflpkkiabhaa
