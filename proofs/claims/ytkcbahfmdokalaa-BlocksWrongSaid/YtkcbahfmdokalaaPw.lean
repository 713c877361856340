/-
  Plain laws for BlocksWrong: a partition shifted behind a first element, partitions with one number wrong. No condition.
-/
import Derived.Test.YtkcbahfmdokalaaPm
import Derived.Test.YtkcbahfmdokalaaLv
namespace Go.Proofs.Ytkcbahfmdokalaa
open Go.RowKit
set_option linter.unusedVariables false
def upP (xs : List Int) : List Int := 0 :: xs.map (· + 1)
theorem upP_length (xs : List Int) : (upP xs).length = xs.length + 1 := by simp [upP]
theorem up_numb : ∀ (L K : List Int), (∀ x ∈ L, 0 ≤ x) → numb (0 :: K.map (· + 1)) (L.map (· + 1)) = (numb K L).map (· + 1)
  | [], _, _ => rfl
  | x :: r, K, h => by
    have hx := h x (by simp)
    have hr : ∀ y ∈ r, 0 ≤ y := fun y hy => h y (by simp [hy])
    by_cases hm : x ∈ K
    · have h2 : x + 1 ∈ (0 : Int) :: K.map (· + 1) := by simp; right; exact hm
      have hi : ((0 : Int) :: K.map (· + 1)).idxOf (x + 1) = K.idxOf x + 1 := by
        rw [List.idxOf_cons]
        have e0 : ((0 : Int) == x + 1) = false := by simp; omega
        rw [e0]
        simp only [cond_false]
        congr 1
        clear h2 h hr e0
        induction K with
        | nil => simp at hm
        | cons y K ih =>
          rw [List.map_cons, List.idxOf_cons, List.idxOf_cons]
          by_cases hy : y = x
          · subst hy; simp
          · have e1 : (y == x) = false := by simpa using hy
            have e2 : (y + 1 == x + 1) = false := by simp; exact hy
            rw [e1, e2]
            simp only [cond_false]
            rw [ih (by simpa [Ne.symm hy] using hm)]
      simp only [List.map_cons, numb, if_pos hm, if_pos h2, hi, up_numb r K hr]
      simp
    · have h2 : ¬ x + 1 ∈ (0 : Int) :: K.map (· + 1) := by
        simp
        refine ⟨by omega, hm⟩
      have e : ((0 : Int) :: K.map (· + 1)) ++ [x + 1] = 0 :: (K ++ [x]).map (· + 1) := by simp
      simp only [List.map_cons, numb, if_neg hm, if_neg h2, e, up_numb r (K ++ [x]) hr]
      simp
theorem upP_pt {m : Nat} {xs : List Int} (h : Pt m xs) : Pt (m + 1) (upP xs) := by
  refine ⟨by rw [upP_length, h.len], ?_⟩
  have h0 : ∀ x ∈ xs, 0 ≤ x := fun x hx => by
    have := numb_bound xs x (by rw [show numb [] xs = xs from h.isP]; exact hx)
    exact this.1
  have e := up_numb xs [] h0
  rw [show numb [] xs = xs from h.isP] at e
  show numb [] (0 :: xs.map (· + 1)) = 0 :: xs.map (· + 1)
  have hn : ¬ (0 : Int) ∈ ([] : List Int) := by simp
  simp only [numb, if_neg hn]
  simp only [List.map_nil] at e
  simp only [List.nil_append, List.length_nil, e]
  rfl
theorem bad_not {n : Nat} {p : List Int} (hp : Pt n p) {i : Nat} (hi : i < n) {v : Int} (hv : v < 0 ∨ (n : Int) ≤ v) : rightB (p.set i v) = false := by
  apply rightB_not
  intro h
  have hb := isP_bound (rightB_iff.1 h).2 i (by rw [List.length_set, hp.len]; exact hi)
  rw [List.getD_eq_getElem?_getD, List.getElem?_set_self (by rw [hp.len]; exact hi), List.length_set, hp.len] at hb
  simp at hb
  omega
theorem take_pt {n : Nat} {p : List Int} (hp : Pt n p) {k : Nat} (hk : k ≤ n) : Pt k (p.take k) := by
  refine ⟨by rw [List.length_take, hp.len]; omega, ?_⟩
  show numb [] (p.take k) = p.take k
  rw [numb_take, show numb [] p = p from hp.isP]
theorem wrongE_60 {p : List Int} {next : List (List Int)} (h : rightB p = false) : wrongE p next = 60 := by
  unfold wrongE
  rw [if_neg (by rw [h]; simp)]
theorem wrongE_61 {p : List Int} {next : List (List Int)} (h : rightB p = true) (hn : ¬ NextOk p.length next) : wrongE p next = 61 := by
  by_cases h0 : wrongE p next = 0
  · exact absurd (wrongE_ok h0).2 hn
  · unfold wrongE at h0 ⊢
    rw [if_pos h] at h0 ⊢
    split
    · rfl
    · rename_i hc
      rw [if_neg hc] at h0
      exact absurd rfl h0
theorem row_not {n i : Nat} (hi : i < n) {v : Int} (hv : v < 0 ∨ (n : Int) ≤ v) : ¬ NextOk n ((List.replicate n ([] : List Int)).set i [0, v]) := by
  intro h
  have hm : [0, v] ∈ (List.replicate n ([] : List Int)).set i [0, v] := by
    refine List.mem_iff_getElem?.2 ⟨i, ?_⟩
    rw [List.getElem?_set_self (by simpa using hi)]
  have := (h.2 _ hm).2 v (by simp)
  omega
/-- The first element stays, those before i are one more. -/
def bump (q : List Int) (i : Nat) : List Int := (List.range q.length).map fun j => if 1 ≤ j ∧ j < i then q.getD j 0 + 1 else q.getD j 0
theorem bump_length (q : List Int) (i : Nat) : (bump q i).length = q.length := by simp [bump]
theorem bump_at {q : List Int} {i j : Nat} (h : j < q.length) : (bump q i)[j]? = some (if 1 ≤ j ∧ j < i then q.getD j 0 + 1 else q.getD j 0) := by
  simp [bump, List.getElem?_map, List.getElem?_range h]
theorem bump_start (q : List Int) : bump q 1 = q := by
  apply List.ext_getElem?
  intro j
  by_cases h : j < q.length
  · rw [bump_at h, if_neg (by omega), List.getD_eq_getElem?_getD, List.getElem?_eq_getElem h]
    rfl
  · rw [List.getElem?_eq_none (by rw [bump_length]; omega), List.getElem?_eq_none (by omega)]
theorem bump_step (q : List Int) {i : Nat} (h1 : 1 ≤ i) (hi : i < q.length) : (bump q i).set i (q.getD i 0 + 1) = bump q (i + 1) := by
  apply List.ext_getElem?
  intro j
  by_cases h : j < q.length
  · by_cases hj : i = j
    · subst hj
      rw [List.getElem?_set_self (by rw [bump_length]; exact hi), bump_at h, if_pos (by omega)]
    · rw [List.getElem?_set_ne hj, bump_at h, bump_at h]
      by_cases hc : 1 ≤ j ∧ j < i
      · rw [if_pos hc, if_pos (by omega)]
      · rw [if_neg hc, if_neg (by omega)]
  · rw [List.getElem?_eq_none (by rw [List.length_set, bump_length]; omega), List.getElem?_eq_none (by rw [bump_length]; omega)]
theorem bump_get {q : List Int} {i : Nat} (hi : i < q.length) : (bump q i).getD i 0 = q.getD i 0 := by
  rw [List.getD_eq_getElem?_getD, bump_at hi, if_neg (by omega)]
  rfl
theorem bump_end (xs : List Int) : bump (0 :: xs) (xs.length + 1) = upP xs := by
  apply List.ext_getElem?
  intro j
  by_cases h : j < (0 :: xs).length
  · rw [bump_at h]
    cases j with
    | zero => simp [upP]
    | succ j =>
      simp at h
      rw [if_pos (by omega)]
      simp [upP, List.getElem?_eq_getElem h]
  · rw [List.getElem?_eq_none (by rw [bump_length]; omega), List.getElem?_eq_none (by rw [upP_length]; simp at h; omega)]
end Go.Proofs.Ytkcbahfmdokalaa
