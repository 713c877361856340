/-
  Layer 7, plain: what must be passed. No condition.
-/
import Derived.Test.YthpdflpkkiabhaaPg
namespace Go.Proofs.Ythpdflpkkiabhaa
set_option linter.unusedVariables false
/-- x must be passed on the way from s to p. -/
def Dom (sc : Int → List Int) (s x p : Int) : Prop := ¬ Av sc x s p
theorem av_of {sc : Int → List Int} {o s p : Int} (h : Av sc o s p) : p ≠ o := by
  cases h with
  | refl h => exact h
  | step _ _ h => exact h
/-- A way that avoids y either avoids x, too, or has come to x. -/
theorem av_split {sc : Int → List Int} {x y s p : Int} (h : Av sc y s p) : Av sc x s p ∨ Av sc y s x := by
  induction h with
  | refl ho =>
    by_cases hx : s = x
    · subst hx; exact .inr (.refl ho)
    · exact .inl (.refl hx)
  | @step a b h1 hq ho ih =>
    rcases ih with ih | ih
    · by_cases hx : b = x
      · subst hx
        exact .inr (.step h1 hq ho)
      · exact .inl (.step ih hq hx)
    · exact .inr ih
theorem dom_trans {sc : Int → List Int} {s x y p : Int} (h : Dom sc s x p) (k : Dom sc s y x) : Dom sc s y p := fun hy => by
  rcases av_split (x := x) hy with h1 | h1
  · exact h h1
  · exact k h1
theorem dom_self (sc : Int → List Int) (s p : Int) : Dom sc s p p := fun h => av_of h rfl
theorem dom_start (sc : Int → List Int) (s p : Int) : Dom sc s s p := fun h => by
  have : ∀ q, Av sc s s q → False := fun q hq => by
    induction hq with
    | refl h => exact h rfl
    | step _ _ _ ih => exact ih
  exact this p h
theorem dom_pre {sc : Int → List Int} {s x p b : Int} (h : Dom sc s x p) (hb : p ∈ sc b) (hx : p ≠ x) : Dom sc s x b := fun k => h (.step k hb hx)
/-- Along the ways that were found. -/
theorem dom_far {sc : Int → List Int} {n : Nat} {s : Int} {L : List (Int × Int)} (hd : Dep sc n s L L.length) : ∀ (i : Nat) (a : Int × Int), L[i]? = some a → ∀ x, Dom sc s x a.1 → x ∈ L.map Prod.fst ∧ dW n L x ≤ dW n L a.1
  | i, a, ha, x, hx => by
    by_cases hxa : a.1 = x
    · subst hxa
      exact ⟨mem_fst ha, Int.le_refl _⟩
    · by_cases hi : 0 < i
      · obtain ⟨j, b, hj, hb, h1, h2, h3⟩ := hd.led i a hi ha
        have hb2 : Dom sc s x b.1 := dom_pre hx (by rw [h1]; exact h2) hxa
        obtain ⟨h4, h5⟩ := dom_far hd j b hb x hb2
        refine ⟨h4, ?_⟩
        rw [h3, ← h1]
        omega
      · have : i = 0 := by omega
        subst this
        rw [hd.hd] at ha
        cases ha
        exact absurd (.refl hxa) hx
termination_by i => i
theorem dom_line {sc : Int → List Int} {n : Nat} {s : Int} {L : List (Int × Int)} (hd : Dep sc n s L L.length) : ∀ (i : Nat) (a : Int × Int), L[i]? = some a → ∀ x y, Dom sc s x a.1 → Dom sc s y a.1 → Dom sc s y x ∨ Dom sc s x y
  | i, a, ha, x, y, hx, hy => by
    by_cases hxa : a.1 = x
    · subst hxa; exact .inl hy
    · by_cases hya : a.1 = y
      · subst hya; exact .inr hx
      · by_cases hi : 0 < i
        · obtain ⟨j, b, hj, hb, h1, h2, h3⟩ := hd.led i a hi ha
          exact dom_line hd j b hb x y (dom_pre hx (by rw [h1]; exact h2) hxa) (dom_pre hy (by rw [h1]; exact h2) hya)
        · have : i = 0 := by omega
          subst this
          rw [hd.hd] at ha
          cases ha
          exact absurd (.refl hxa) hx
termination_by i => i
/-- Without the edges of q: what is reached (but q itself) is what is reached on a way that avoids q. -/
theorem cut_av {sc sc' : Int → List Int} {q s p : Int} (hsc : ∀ a, a ≠ q → sc' a = sc a) (hq : sc' q = []) (hs : 0 ≤ s) (hn : ∀ a, 0 ≤ a → ∀ b ∈ sc' a, 0 ≤ b) (hp : p ≠ q) : Av sc' (-1) s p ↔ (Av sc q s p ∧ 0 ≤ p ∧ ∀ z, Av sc q s z → 0 ≤ z) ∨ (Av sc' (-1) s p) := ⟨fun h => .inr h, fun h => by
  rcases h with ⟨h1, h2, h3⟩ | h
  · have : ∀ z, Av sc q s z → Av sc' (-1) s z := fun z hz => by
      induction hz with
      | refl ho => exact .refl (by omega)
      | @step a b h1 hq2 ho ih =>
        refine .step ih (by rw [hsc a (av_of h1)]; exact hq2) ?_
        have := h3 b (.step h1 hq2 ho)
        omega
    exact this p h1
  · exact h⟩
theorem cut_av' {sc sc' : Int → List Int} {q s p : Int} (hsc : ∀ a, a ≠ q → sc' a = sc a) (hq : sc' q = []) (hp : p ≠ q) (h : Av sc' (-1) s p) : Av sc q s p := by
  have : ∀ z, Av sc' (-1) s z → z ≠ q → Av sc q s z := fun z hz => by
    induction hz with
    | refl ho => exact fun hz2 => .refl hz2
    | @step a b h1 hq2 ho ih =>
      intro hb
      by_cases ha : a = q
      · subst ha
        rw [hq] at hq2
        simp at hq2
      · exact .step (ih ha) (by rw [← hsc a ha]; exact hq2) hb
  exact this p h hp
end Go.Proofs.Ythpdflpkkiabhaa
