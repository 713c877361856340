/-
  The plain law of Members. No program in sight; no condition.
-/
import Derived.Test.YtkcbahfmdokalaaPb
import Derived.Test.YtkcbahfmdokalaaO
namespace Go.Proofs.Ytkcbahfmdokalaa
set_option linter.unusedVariables false
theorem numb_take {α : Type} [BEq α] [LawfulBEq α] [DecidableEq α] (K : List α) (i : Nat) : numb [] (K.take i) = (numb [] K).take i := by
  by_cases h : i ≤ K.length
  · have e : numb [] K = numb [] (K.take i) ++ numb (firsts [] (K.take i)) (K.drop i) := by
      conv => lhs; rw [← List.take_append_drop i K]
      exact numb_append _ _ _
    have hl : (numb [] (K.take i)).length = i := by rw [numb_length, List.length_take]; omega
    rw [e]
    exact (List.take_left' hl).symm
  · rw [List.take_of_length_le (by omega), List.take_of_length_le (by rw [numb_length]; omega)]
section
variable {n : Nat} {p : List Int}
/-- Ahead of each number there is the one before it. -/
theorem pt_before (hp : Pt n p) {i b : Nat} (hi : i < n) (hb : p.getD i 0 = (b : Int) + 1) : ∃ j, j < i ∧ p.getD j 0 = b := by
  -- where the number comes first
  have hex : ∃ k, k ≤ i ∧ p.getD k 0 = (b : Int) + 1 ∧ ∀ j, j < k → p.getD j 0 ≠ (b : Int) + 1 := by
    have : ∀ m, m ≤ i → p.getD m 0 = (b : Int) + 1 → ∃ k, k ≤ m ∧ p.getD k 0 = (b : Int) + 1 ∧ ∀ j, j < k → p.getD j 0 ≠ (b : Int) + 1 := by
      intro m
      induction m using Nat.strongRecOn with
      | _ m ih =>
        intro hm he
        by_cases h : ∃ j, j < m ∧ p.getD j 0 = (b : Int) + 1
        · obtain ⟨j, hj, hje⟩ := h
          obtain ⟨k, h1, h2, h3⟩ := ih j hj (by omega) hje
          exact ⟨k, by omega, h2, h3⟩
        · exact ⟨m, by omega, he, fun j hj hje => h ⟨j, hj, hje⟩⟩
    exact this i (by omega) hb
  obtain ⟨k, hk, hke, hkn⟩ := hex
  have hkl : k < p.length := by rw [hp.len]; omega
  -- it is the count of those before it
  have hnot : p[k] ∉ firsts [] (p.take k) := fun h => by
    rw [firsts_mem] at h
    rcases h with h | h
    · cases h
    · obtain ⟨j, hj, he⟩ := List.mem_iff_getElem.1 h
      rw [List.length_take] at hj
      rw [List.getElem_take] at he
      refine hkn j (by omega) ?_
      rw [getD_num (by omega), he, ← getD_num hkl, hke]
  have hsplit : p = p.take k ++ p[k] :: p.drop (k + 1) := by rw [← List.drop_eq_getElem_cons hkl, List.take_append_drop]
  have hN : (numb [] p)[k]? = some ((firsts [] (p.take k)).length : Int) := by
    conv => lhs; rw [hsplit, numb_append]
    rw [List.getElem?_append_right (by rw [numb_length, List.length_take]; omega), numb_length, List.length_take, Nat.min_eq_left (by omega), Nat.sub_self]
    simp only [numb, if_neg hnot, List.getElem?_cons_zero]
  rw [show numb [] p = p from hp.isP, List.getElem?_eq_getElem hkl, Option.some.injEq, ← getD_num hkl, hke] at hN
  have hm := numb_onto (p.take k) b (by omega)
  rw [numb_take, show numb [] p = p from hp.isP] at hm
  obtain ⟨j, hj, he⟩ := List.mem_iff_getElem.1 hm
  rw [List.length_take] at hj
  rw [List.getElem_take] at he
  exact ⟨j, by omega, by rw [getD_num (by omega), he]⟩
def rowM (p : List Int) (b : Nat) : List Int := ((List.range p.length).filter fun i => p.getD i 0 = (b : Int)).map fun (i : Nat) => (i : Int)
theorem rowM_mem {b : Nat} {x : Int} : x ∈ rowM p b ↔ ∃ i : Nat, i < p.length ∧ x = i ∧ p.getD i 0 = b := by
  unfold rowM
  simp only [List.mem_map, List.mem_filter, List.mem_range, decide_eq_true_eq]
  constructor
  · rintro ⟨i, ⟨h1, h2⟩, rfl⟩
    exact ⟨i, h1, rfl, h2⟩
  · rintro ⟨i, h1, rfl, h2⟩
    exact ⟨i, ⟨h1, h2⟩, rfl⟩
theorem rowM_sorted (p : List Int) (b : Nat) : (rowM p b).Pairwise (· < ·) := by
  unfold rowM
  refine List.Pairwise.map _ (R := fun (i j : Nat) => i < j) (fun i j h => by omega) ?_
  exact List.Pairwise.filter _ List.pairwise_lt_range
theorem rowM_lt {b i j : Nat} (h : i < j) (hj : j < (rowM p b).length) : (rowM p b).getD i 0 < (rowM p b).getD j 0 := by
  rw [getD_num (by omega), getD_num hj]
  exact (List.pairwise_iff_getElem.1 (rowM_sorted p b)) i j (by omega) hj h
theorem membersL_at {b : Nat} (hb : b < cnt p) : (membersL p).getD b [] = rowM p b := memAt_at hb
theorem rowM_pos (hp : Pt n p) {b : Nat} (hb : b < cnt p) : 0 < (rowM p b).length := by
  obtain ⟨i, hi, he⟩ := pt_onto hp hb
  have : (i : Int) ∈ rowM p b := rowM_mem.2 ⟨i, by rw [hp.len]; exact hi, rfl, he⟩
  exact List.length_pos_of_mem this
theorem rowM_first (hp : Pt n p) {b : Nat} (hb : b + 1 < cnt p) : (rowM p b).getD 0 0 < (rowM p (b + 1)).getD 0 0 := by
  have h1 := rowM_pos hp hb
  obtain ⟨i, hi, he, hpi⟩ := rowM_mem.1 (getD_mem (d := 0) h1)
  rw [hp.len] at hi
  obtain ⟨j, hj, hje⟩ := pt_before hp hi (b := b) (by rw [hpi]; omega)
  have hm : (j : Int) ∈ rowM p b := rowM_mem.2 ⟨j, by rw [hp.len]; omega, rfl, hje⟩
  obtain ⟨k, hk, hke⟩ := List.mem_iff_getElem.1 hm
  rw [he]
  by_cases h0 : k = 0
  · subst h0
    rw [getD_num hk, hke]
    omega
  · have := rowM_lt (p := p) (b := b) (i := 0) (j := k) (by omega) hk
    rw [getD_num hk, hke] at this
    omega
/-- How many elements the first blocks have. -/
def sumM (p : List Int) : Nat → Nat
  | 0 => 0
  | b + 1 => sumM p b + (rowM p b).length
theorem count_lt (f : Nat → Int) (b : Nat) : ∀ L : List Nat, (∀ i ∈ L, 0 ≤ f i) → (L.filter fun i => f i < (b : Int) + 1).length = (L.filter fun i => f i < (b : Int)).length + (L.filter fun i => f i = (b : Int)).length
  | [], _ => rfl
  | x :: r, h => by
    have ih := count_lt f b r (fun i hi => h i (by simp [hi]))
    simp only [List.filter_cons]
    by_cases h1 : f x < (b : Int)
    · rw [if_pos (decide_eq_true (show f x < (b : Int) + 1 by omega)), if_pos (decide_eq_true h1), if_neg (by simp; omega), List.length_cons, List.length_cons]
      omega
    · by_cases h3 : f x = (b : Int)
      · rw [if_pos (decide_eq_true (show f x < (b : Int) + 1 by omega)), if_neg (by simpa using h1), if_pos (decide_eq_true h3), List.length_cons, List.length_cons]
        omega
      · rw [if_neg (by simp; omega), if_neg (by simpa using h1), if_neg (by simpa using h3)]
        exact ih
theorem sumM_eq (hp : Pt n p) : ∀ b, sumM p b = ((List.range n).filter fun i => p.getD i 0 < (b : Int)).length
  | 0 => by
    have : ((List.range n).filter fun i => p.getD i 0 < ((0 : Nat) : Int)) = [] := by
      rw [List.filter_eq_nil_iff]
      intro i hi
      have := pt_bound hp (List.mem_range.1 hi)
      simp only [decide_eq_true_eq]
      omega
    rw [this]
    rfl
  | b + 1 => by
    have h := count_lt (fun i => p.getD i 0) b (List.range n) (fun i hi => (pt_bound hp (List.mem_range.1 hi)).1)
    rw [show sumM p (b + 1) = sumM p b + (rowM p b).length from rfl, sumM_eq hp b, rowM, List.length_map, hp.len]
    rw [show (((b + 1 : Nat)) : Int) = (b : Int) + 1 by omega]
    exact h.symm
theorem sumM_all (hp : Pt n p) : sumM p (cnt p) = n := by
  rw [sumM_eq hp]
  have : ((List.range n).filter fun i => p.getD i 0 < ((cnt p : Nat) : Int)) = List.range n := by
    rw [List.filter_eq_self]
    intro i hi
    have := pt_bound hp (List.mem_range.1 hi)
    simp only [decide_eq_true_eq]
    omega
  rw [this, List.length_range]
theorem sumM_le (hp : Pt n p) {b : Nat} (hb : b ≤ cnt p) : sumM p b ≤ n := by
  rw [sumM_eq hp]
  have := List.length_filter_le (fun i => decide (p.getD i 0 < (b : Int))) (List.range n)
  rwa [List.length_range] at this
end
end Go.Proofs.Ytkcbahfmdokalaa
