/-
  Plain: what must be passed, by the reference's way. No condition.
-/
import Derived.Test.YthpdflpkkiabhaaPn
import Derived.Test.YthpdflpkkiabhaaXp
namespace Go.Proofs.Ythpdflpkkiabhaa
set_option linter.unusedVariables false
/-- A list without a point. -/
def wo (k : Int) (l : List Int) : List Int := l.filter fun x => decide (x ≠ k)
def lessR (next : List (List Int)) (k p : Nat) : List Int := if p = k then [] else wo k (next.getD p [])
def lessL (next : List (List Int)) (n k : Nat) : List (List Int) := (List.range n).map (lessR next k)
theorem lessL_length (next : List (List Int)) (n k : Nat) : (lessL next n k).length = n := by simp [lessL]
theorem lessL_at {next : List (List Int)} {n k p : Nat} (h : p < n) : (lessL next n k).getD p [] = lessR next k p := by
  rw [getD_numL (by rw [lessL_length]; exact h)]
  simp [lessL]
theorem lessR_short (next : List (List Int)) (k p : Nat) : (lessR next k p).length ≤ (next.getD p []).length := by
  unfold lessR wo
  split
  · simp
  · exact List.length_filter_le _ _
theorem lessR_mem {next : List (List Int)} {k p : Nat} {x : Int} (h : x ∈ lessR next k p) : p ≠ k ∧ x ≠ (k : Int) ∧ x ∈ next.getD p [] := by
  unfold lessR wo at h
  split at h
  · cases h
  · rename_i hp
    rw [List.mem_filter, decide_eq_true_iff] at h
    exact ⟨hp, h.2, h.1⟩
theorem lessL_take_total (next : List (List Int)) (k : Nat) : ∀ m, m ≤ next.length → total ((lessL next next.length k).take m) ≤ total (next.take m)
  | 0, _ => by simp [total]
  | m + 1, h => by
    have h1 := lessL_take_total next k m (by omega)
    have h2 := lessR_short next k m
    rw [total_take_succ (next := next) (k := m) (by omega), total_take_succ (next := lessL next next.length k) (k := m) (by rw [lessL_length]; omega), lessL_at (by omega)]
    omega
theorem less_check {next : List (List Int)} (hc : checkB next = true) (k : Nat) : checkB (lessL next next.length k) = true := by
  obtain ⟨h1, h2, h3⟩ := checkB_iff.1 hc
  refine checkB_iff.2 ⟨by rw [lessL_length]; exact h1, ?_, fun l hl x hx => ?_⟩
  · have := lessL_take_total next k next.length (Nat.le_refl _)
    rw [List.take_length, List.take_of_length_le (by rw [lessL_length]; exact Nat.le_refl _)] at this
    omega
  · rw [lessL_length]
    obtain ⟨p, hp, rfl⟩ := List.mem_map.1 hl
    rw [List.mem_range] at hp
    exact h3 _ (getD_mem hp) x (lessR_mem hx).2.2
theorem av_less {next : List (List Int)} (hc : checkB next = true) {s : Int} (hs : 0 ≤ s ∧ s < (next.length : Int)) {k : Nat} (p : Int) : Av (succL next) k s p ↔ s ≠ (k : Int) ∧ p ≠ (k : Int) ∧ Av (succL (lessL next next.length k)) (-1) s p := by
  have hs1 := checkB_succ hc
  have hs2 := checkB_succ (less_check hc k)
  rw [lessL_length] at hs2
  have e : ∀ a, 0 ≤ a ∧ a < (next.length : Int) → succL (lessL next next.length k) a = lessR next k a.toNat := fun a ha => by
    unfold succL
    exact lessL_at (by omega)
  have rng : ∀ z, Av (succL next) k s z → 0 ≤ z ∧ z < (next.length : Int) := fun z hz => by
    induction hz with
    | refl _ => exact hs
    | step _ h2 _ ih => exact hs1 _ ih _ h2
  have rng2 : ∀ z, Av (succL (lessL next next.length k)) (-1) s z → 0 ≤ z ∧ z < (next.length : Int) := fun z hz => by
    induction hz with
    | refl _ => exact hs
    | step _ h2 _ ih => exact hs2 _ ih _ h2
  constructor
  · intro h
    have h0 : s ≠ (k : Int) := by
      induction h with
      | refl h => exact h
      | step _ _ _ ih => exact ih
    refine ⟨h0, av_of h, ?_⟩
    induction h with
    | refl _ => exact .refl (by omega)
    | @step a b h1 h2 h3 ih =>
      have ra := rng a h1
      have rb := hs1 a ra b h2
      refine .step ih ?_ (by omega)
      rw [e a ra]
      have := av_of h1
      unfold lessR wo
      rw [if_neg (by omega), List.mem_filter, decide_eq_true_iff]
      exact ⟨h2, h3⟩
  · rintro ⟨h0, hp, h⟩
    have : ∀ z, Av (succL (lessL next next.length k)) (-1) s z → Av (succL next) k s z := fun z hz => by
      induction hz with
      | refl _ => exact .refl h0
      | @step a b h1 h2 h3 ih =>
        have ra := rng2 a h1
        rw [e a ra] at h2
        obtain ⟨g1, g2, g3⟩ := lessR_mem h2
        exact .step ih g3 g2
    exact this p h
theorem must_skip {next : List (List Int)} (hc : checkB next = true) {s : Int} (hs : 0 ≤ s ∧ s < (next.length : Int)) {k : Nat} (hk : k < next.length) (h : (waysL next next.length s).getD k 0 < 0) : mustTo next next.length s (k + 1) = mustTo next next.length s k := by
  have := (finds hc hs).far k hk
  rw [mustTo, if_neg]
  intro hm
  have := this.1.2 hm
  omega
theorem must_step {next : List (List Int)} (hc : checkB next = true) {s : Int} (hs : 0 ≤ s ∧ s < (next.length : Int)) {k p : Nat} (hk : k < next.length) (hp : p < next.length) (h : 0 ≤ (waysL next next.length s).getD k 0) :
    (mustTo next next.length s (k + 1)).getD p [] = if 0 ≤ (waysL next next.length s).getD p 0 ∧ (p = k ∨ s = (k : Int) ∨ (waysL (lessL next next.length k) next.length s).getD p 0 < 0) then (mustTo next next.length s k).getD p [] ++ [(k : Int)] else (mustTo next next.length s k).getD p [] := by
  have hF := finds hc hs
  have hck := less_check hc k
  have hF2 := finds hck (s := s) (by rw [lessL_length]; exact hs)
  rw [lessL_length] at hF2
  have f1 := (hF.far k hk).1
  have f2 := (hF.far p hp).1
  have f3 := hF2.far p hp
  have e3 : (p : Int) ∈ fromL (lessL next next.length k) next.length s ↔ Av (succL (lessL next next.length k)) (-1) s p := by
    have hs2 := checkB_succ hck
    rw [lessL_length] at hs2
    unfold fromL
    rw [found_mem hs2 (fun z hz => by rw [List.mem_singleton.1 hz]; exact hs)]
    simp only [List.mem_singleton, exists_eq_left]
  have e4 : (p : Int) ∈ (foundL (succL next) k next.length [s]).map Prod.fst ↔ Av (succL next) k s p := by
    rw [found_mem (checkB_succ hc) (fun z hz => by rw [List.mem_singleton.1 hz]; exact hs)]
    simp only [List.mem_singleton, exists_eq_left]
  rw [e3] at f3
  have hav := av_less hc hs (k := k) p
  have hiff : ((k : Int) ∈ fromL next next.length s ∧ (p : Int) ∈ fromL next next.length s ∧ (p : Int) ∉ (foundL (succL next) k next.length [s]).map Prod.fst) ↔ (0 ≤ (waysL next next.length s).getD p 0 ∧ (p = k ∨ s = (k : Int) ∨ (waysL (lessL next next.length k) next.length s).getD p 0 < 0)) := by
    rw [e4, hav]
    constructor
    · rintro ⟨_, h2, h3⟩
      refine ⟨f2.2 h2, ?_⟩
      by_cases hpk : p = k
      · exact .inl hpk
      · by_cases hsk : s = (k : Int)
        · exact .inr (.inl hsk)
        · right; right
          by_cases h4 : 0 ≤ (waysL (lessL next next.length k) next.length s).getD p 0
          · exact absurd ⟨hsk, by omega, f3.1.1 h4⟩ h3
          · omega
    · rintro ⟨h2, h3⟩
      refine ⟨f1.1 h, f2.1 h2, ?_⟩
      rintro ⟨g1, g2, g3⟩
      have g4 := f3.1.2 g3
      rcases h3 with h3 | h3 | h3
      · subst h3; exact g2 rfl
      · exact g1 h3
      · omega
  have hsplit : (mustTo next next.length s (k + 1)).getD p [] = (mustTo next next.length s k).getD p [] ++ ([k].filter fun (j : Nat) => decide ((j : Int) ∈ fromL next next.length s ∧ (p : Int) ∈ fromL next next.length s ∧ (p : Int) ∉ (foundL (succL next) j next.length [s]).map Prod.fst)).map fun (j : Nat) => (j : Int) := by
    rw [mustTo_at hc hs p hp (k + 1), mustTo_at hc hs p hp k, List.range_succ, List.filter_append, List.map_append]
  rw [hsplit]
  by_cases hh : 0 ≤ (waysL next next.length s).getD p 0 ∧ (p = k ∨ s = (k : Int) ∨ (waysL (lessL next next.length k) next.length s).getD p 0 < 0)
  · rw [if_pos hh, List.filter_cons_of_pos (by rw [decide_eq_true_iff]; exact hiff.2 hh)]
    rfl
  · rw [if_neg hh, List.filter_cons_of_neg (by rw [decide_eq_true_iff]; exact fun h => hh (hiff.1 h))]
    simp
/-- On the way from one to the next. -/
def midM (next : List (List Int)) (n : Nat) (s : Int) (k p : Nat) : List (List Int) := (List.range n).map fun j => if j < p then (mustTo next n s (k + 1)).getD j [] else (mustTo next n s k).getD j []
theorem midM_length (next : List (List Int)) (n : Nat) (s : Int) (k p : Nat) : (midM next n s k p).length = n := by simp [midM]
theorem midM_at {next : List (List Int)} {n : Nat} {s : Int} {k p j : Nat} (h : j < n) : (midM next n s k p).getD j [] = if j < p then (mustTo next n s (k + 1)).getD j [] else (mustTo next n s k).getD j [] := by
  rw [getD_numL (by rw [midM_length]; exact h)]
  simp [midM]
theorem midM_start (next : List (List Int)) (n : Nat) (s : Int) (k : Nat) : midM next n s k 0 = mustTo next n s k := by
  refine ext_getDL [] (by rw [midM_length, mustTo_length]) fun j hj => ?_
  rw [midM_length] at hj
  rw [midM_at hj, if_neg (by omega)]
theorem midM_end (next : List (List Int)) (n : Nat) (s : Int) (k : Nat) : midM next n s k n = mustTo next n s (k + 1) := by
  refine ext_getDL [] (by rw [midM_length, mustTo_length]) fun j hj => ?_
  rw [midM_length] at hj
  rw [midM_at hj, if_pos hj]
theorem midM_yes {next : List (List Int)} {n : Nat} {s : Int} {k p : Nat} (hp : p < n) (h : (mustTo next n s (k + 1)).getD p [] = (mustTo next n s k).getD p [] ++ [(k : Int)]) : midM next n s k (p + 1) = (midM next n s k p).set p ((midM next n s k p).getD p [] ++ [(k : Int)]) := by
  refine ext_getDL [] (by rw [List.length_set, midM_length, midM_length]) fun j hj => ?_
  rw [midM_length] at hj
  rw [getD_set (by rw [midM_length]; exact hp), midM_at hj, midM_at hj, midM_at hp]
  by_cases hjp : p = j
  · subst hjp
    rw [if_pos (by omega), if_pos rfl, if_neg (by omega), h]
  · rw [if_neg hjp]
    by_cases h2 : j < p
    · rw [if_pos (by omega), if_pos h2]
    · rw [if_neg (by omega), if_neg h2]
theorem midM_no {next : List (List Int)} {n : Nat} {s : Int} {k p : Nat} (hp : p < n) (h : (mustTo next n s (k + 1)).getD p [] = (mustTo next n s k).getD p []) : midM next n s k (p + 1) = midM next n s k p := by
  refine ext_getDL [] (by rw [midM_length, midM_length]) fun j hj => ?_
  rw [midM_length] at hj
  rw [midM_at hj, midM_at hj]
  by_cases hjp : p = j
  · subst hjp
    rw [if_pos (by omega), if_neg (by omega), h]
  · by_cases h2 : j < p
    · rw [if_pos (by omega), if_pos h2]
    · rw [if_neg (by omega), if_neg h2]
theorem wo_yes {k : Int} {l : List Int} {q : Nat} (hq : q < l.length) (h : l.getD q 0 ≠ k) : wo k (l.take (q + 1)) = wo k (l.take q) ++ [l.getD q 0] := by
  unfold wo
  rw [List.take_succ_eq_append_getElem hq, List.filter_append, ← getD_num hq, List.filter_cons_of_pos (by simpa using h)]
  rfl
theorem wo_no {k : Int} {l : List Int} {q : Nat} (hq : q < l.length) (h : l.getD q 0 = k) : wo k (l.take (q + 1)) = wo k (l.take q) := by
  unfold wo
  rw [List.take_succ_eq_append_getElem hq, List.filter_append, ← getD_num hq, List.filter_cons_of_neg (by simpa using h)]
  simp
theorem wo_short (k : Int) (l : List Int) (q : Nat) : (wo k (l.take q)).length ≤ q := by
  unfold wo
  exact Nat.le_trans (List.length_filter_le _ _) (by rw [List.length_take]; omega)
end Go.Proofs.Ythpdflpkkiabhaa
