/-
  Layer 7, plain: walks of a length, and how far each point is. No condition.
-/
import Derived.Test.YthpdflpkkiabhaaPg
import Derived.Test.YthpdflpkkiabhaaPo
namespace Go.Proofs.Ythpdflpkkiabhaa
set_option linter.unusedVariables false
inductive Wk (sc : Int → List Int) (a : Int) : Nat → Int → Prop
  | nil : Wk sc a 0 a
  | step {k : Nat} {b c : Int} : Wk sc a k b → c ∈ sc b → Wk sc a (k + 1) c
theorem Wk.cons {sc : Int → List Int} {a b c : Int} {k : Nat} (h : b ∈ sc a) (w : Wk sc b k c) : Wk sc a (k + 1) c := by
  induction w with
  | nil => exact .step .nil h
  | step _ h2 ih => exact .step ih h2
theorem Wk.rng {sc : Int → List Int} {a b : Int} {k n : Nat} (hs : ∀ p, 0 ≤ p ∧ p < (n : Int) → ∀ q ∈ sc p, 0 ≤ q ∧ q < (n : Int)) (ha : 0 ≤ a ∧ a < (n : Int)) (w : Wk sc a k b) : 0 ≤ b ∧ b < (n : Int) := by
  induction w with
  | nil => exact ha
  | step _ h2 ih => exact hs _ ih _ h2
/-- Turned round. -/
theorem Wk.turn {sc sc' : Int → List Int} {a b : Int} {k n : Nat} (hs : ∀ p, 0 ≤ p ∧ p < (n : Int) → ∀ q ∈ sc p, 0 ≤ q ∧ q < (n : Int)) (ha : 0 ≤ a ∧ a < (n : Int)) (hb : ∀ p q, 0 ≤ p ∧ p < (n : Int) → 0 ≤ q ∧ q < (n : Int) → q ∈ sc p → p ∈ sc' q) (w : Wk sc a k b) : Wk sc' b k a := by
  induction w with
  | nil => exact .nil
  | @step k b c h1 h2 ih => exact .cons (hb b c (h1.rng hs ha) (hs b (h1.rng hs ha) c h2) h2) ih
theorem Wk.av {sc : Int → List Int} {a b : Int} {k n : Nat} (hs : ∀ p, 0 ≤ p ∧ p < (n : Int) → ∀ q ∈ sc p, 0 ≤ q ∧ q < (n : Int)) (ha : 0 ≤ a ∧ a < (n : Int)) (w : Wk sc a k b) : Av sc (-1) a b := by
  induction w with
  | nil => exact .refl (by omega)
  | @step k b c h1 h2 ih =>
    have := hs b (h1.rng hs ha) c h2
    exact .step ih h2 (by omega)
theorem Av.wk {sc : Int → List Int} {o a b : Int} (h : Av sc o a b) : ∃ k, Wk sc a k b := by
  induction h with
  | refl _ => exact ⟨0, .nil⟩
  | step _ h2 _ ih => obtain ⟨k, hk⟩ := ih; exact ⟨k + 1, .step hk h2⟩
theorem Av.trans {sc : Int → List Int} {o a b c : Int} (h : Av sc o a b) (k : Av sc o b c) : Av sc o a c := by
  induction k with
  | refl _ => exact h
  | step _ h2 h3 ih => exact .step ih h2 h3
/-- How far a point is: there is a walk as long, and none is shorter. -/
structure FarP (sc : Int → List Int) (s : Int) (W : List Int) (p : Nat) : Prop where
  low : -1 ≤ W.getD p 0
  wk : 0 ≤ W.getD p 0 → Wk sc s (W.getD p 0).toNat p
  least : ∀ k, Wk sc s k p → 0 ≤ W.getD p 0 ∧ W.getD p 0 ≤ k
theorem dep_wk {sc : Int → List Int} {n : Nat} {s : Int} {L : List (Int × Int)} (hd : Dep sc n s L L.length) : ∀ (i : Nat) (a : Int × Int), L[i]? = some a → Wk sc s (dW n L a.1).toNat a.1
  | i, a, ha => by
    by_cases hi : 0 < i
    · obtain ⟨j, b, hj, hb, h1, h2, h3⟩ := hd.led i a hi ha
      have := dep_wk hd j b hb
      have hn := hd.nn b (List.mem_of_getElem? hb)
      rw [h1] at this hn
      rw [h3, show (dW n L a.2 + 1).toNat = (dW n L a.2).toNat + 1 by omega]
      exact .step this h2
    · have : i = 0 := by omega
      subst this
      rw [hd.hd] at ha
      cases ha
      rw [hd.st0]
      exact .nil
termination_by i => i
theorem ways_far {next : List (List Int)} {s : Int} (hc : checkB next = true) (hs : 0 ≤ s ∧ s < (next.length : Int)) (p : Nat) (hp : p < next.length) : FarP (succL next) s (waysL next next.length s) p := by
  obtain ⟨hok, hd⟩ := found_dep (checkB_succ hc) hs
  have hF := (finds hc hs).far p hp
  have hfl : fromL next next.length s = (foundL (succL next) (-1) next.length [s]).map Prod.fst := rfl
  have hWn : (waysL next next.length s).getD p 0 = dW next.length (foundL (succL next) (-1) next.length [s]) p := by
    unfold waysL dW
    rw [Int.toNat_natCast]
  rw [hfl] at hF
  obtain ⟨L, hL⟩ : ∃ L, foundL (succL next) (-1) next.length [s] = L := ⟨_, rfl⟩
  rw [hL] at hok hd hF hWn
  refine ⟨hF.2, fun h0 => ?_, fun k hk => ?_⟩
  · obtain ⟨j, b, hj, hb⟩ := getP (hF.1.1 h0)
    have := dep_wk hd j b hj
    rw [hb] at this
    rw [hWn]
    exact this
  · have hall : ∀ (k : Nat) (y : Int), Wk (succL next) s k y → y ∈ L.map Prod.fst ∧ dW next.length L y ≤ k := by
      clear hk
      intro k y hy
      induction hy with
      | nil => exact ⟨mem_fst hd.hd, by rw [hd.st0]; omega⟩
      | @step k b c h1 h2 ih =>
        obtain ⟨i1, i2⟩ := ih
        obtain ⟨j, x, hj, hx⟩ := getP i1
        have h3 := hd.done j x (List.getElem?_eq_some_iff.1 hj).1 hj c (by rw [hx]; exact h2)
        rw [hx] at h3
        exact ⟨h3.1, by omega⟩
    obtain ⟨h1, h2⟩ := hall k p hk
    rw [hWn]
    obtain ⟨j, x, hj, hx⟩ := getP h1
    have := hd.nn x (List.mem_of_getElem? hj)
    rw [hx] at this
    exact ⟨this, h2⟩
/-- As far in one as in the other, if each walk of one has one as long in the other. -/
theorem far_eq {sc sc' : Int → List Int} {s s' : Int} {W W' : List Int} {p p' : Nat} (h : FarP sc s W p) (h' : FarP sc' s' W' p') (k : ∀ j, Wk sc s j p ↔ Wk sc' s' j p') : W.getD p 0 = W'.getD p' 0 := by
  by_cases h0 : 0 ≤ W.getD p 0
  · have h1 := h'.least _ ((k _).1 (h.wk h0))
    have h2 := h.least _ ((k _).2 (h'.wk h1.1))
    omega
  · by_cases h1 : 0 ≤ W'.getD p' 0
    · have h2 := h.least _ ((k _).2 (h'.wk h1))
      omega
    · have := h.low
      have := h'.low
      omega
end Go.Proofs.Ythpdflpkkiabhaa
