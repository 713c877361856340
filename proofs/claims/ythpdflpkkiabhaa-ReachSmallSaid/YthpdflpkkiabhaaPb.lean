/-
  Layer 7, plain: what ReachBack says. No condition.
-/
import Derived.Test.YthpdflpkkiabhaaPw
namespace Go.Proofs.Ythpdflpkkiabhaa
set_option linter.unusedVariables false
theorem rowB_at (p : Int) (n : Nat) (out : List (List Int)) (ho : out.length = n) (hp : ∀ b, p ∉ out.getD b []) (t : Nat) (ht : t < n) (l : List Int) : (∀ x ∈ l, 0 ≤ x ∧ x < (n : Int)) → (rowB p out l).getD t [] = if (t : Int) ∈ l then out.getD t [] ++ [p] else out.getD t [] := by
  induction l using snoc_ind with
  | h0 => intro _; rw [if_neg (by simp)]; rfl
  | h1 l x ih =>
    intro hl
    have hx := hl x (by simp)
    have ih2 := ih (fun y hy => hl y (by simp [hy]))
    rw [rowB_snoc, stepB]
    by_cases hxt : x.toNat = t
    · have hxt2 : (t : Int) = x := by omega
      rw [if_pos (c := (t : Int) ∈ l ++ [x]) (by rw [hxt2]; simp), hxt, ih2]
      by_cases hm : (t : Int) ∈ l
      · rw [if_pos hm, if_pos (by simp), ih2, if_pos hm]
      · rw [if_neg hm, if_neg, getD_set (by rw [rowB_length, ho]; exact ht), if_pos rfl]
        intro e
        exact hp t (List.mem_of_getLast? e)
    · have hxt2 : ¬ (t : Int) = x := by omega
      have hiff : (t : Int) ∈ l ++ [x] ↔ (t : Int) ∈ l := by simp [hxt2]
      split
      · rw [ih2]
        by_cases hm : (t : Int) ∈ l
        · rw [if_pos hm, if_pos (hiff.2 hm)]
        · rw [if_neg hm, if_neg (fun h => hm (hiff.1 h))]
      · rw [getD_set (by rw [rowB_length, ho]; omega), if_neg hxt, ih2]
        by_cases hm : (t : Int) ∈ l
        · rw [if_pos hm, if_pos (hiff.2 hm)]
        · rw [if_neg hm, if_neg (fun h => hm (hiff.1 h))]
theorem backTo_at {next : List (List Int)} {n : Nat} (hl : next.length = n) (hn : ∀ l ∈ next, ∀ x ∈ l, 0 ≤ x ∧ x < (n : Int)) (t : Nat) (ht : t < n) : ∀ k, k ≤ n → (backTo next n k).getD t [] = ((List.range k).filter fun (j : Nat) => decide ((t : Int) ∈ next.getD j [])).map fun (j : Nat) => (j : Int)
  | 0, _ => by
    rw [backTo, List.getD_eq_getElem?_getD, List.getElem?_replicate]
    simp [ht]
  | k + 1, hk => by
    rw [List.range_succ, List.filter_append, List.map_append, ← backTo_at hl hn t ht k (by omega), backTo, rowB_at k n _ (backTo_length _ _ _) (fun b hb => ?_) t ht _ (hn _ (getD_mem (by omega)))]
    · by_cases hm : (t : Int) ∈ next.getD k []
      · rw [if_pos hm, List.filter_cons_of_pos (by simpa using hm)]
        rfl
      · rw [if_neg hm, List.filter_cons_of_neg (by simpa using hm)]
        simp
    · have := backTo_pts next n k k (Nat.le_refl _) b k hb
      omega
theorem backL_at {next : List (List Int)} (hc : checkB next = true) (t : Nat) (ht : t < next.length) : (backL next next.length).getD t [] = ((List.range next.length).filter fun (j : Nat) => decide ((t : Int) ∈ next.getD j [])).map fun (j : Nat) => (j : Int) :=
  backTo_at rfl (checkB_iff.1 hc).2.2 t ht _ (Nat.le_refl _)
theorem backL_mem {next : List (List Int)} (hc : checkB next = true) (t : Nat) (ht : t < next.length) (x : Int) : x ∈ (backL next next.length).getD t [] ↔ (0 ≤ x ∧ x < (next.length : Int)) ∧ (t : Int) ∈ succL next x := by
  rw [backL_at hc t ht, List.mem_map]
  constructor
  · rintro ⟨j, hj, rfl⟩
    rw [List.mem_filter, List.mem_range, decide_eq_true_iff] at hj
    exact ⟨by omega, by unfold succL; rw [Int.toNat_natCast]; exact hj.2⟩
  · rintro ⟨h1, h2⟩
    refine ⟨x.toNat, ?_, by omega⟩
    rw [List.mem_filter, List.mem_range, decide_eq_true_iff]
    exact ⟨by omega, h2⟩
theorem total_put {out : List (List Int)} {i : Nat} (hi : i < out.length) (l : List Int) : total (out.set i l) + (out.getD i []).length = total out + l.length := by
  induction out generalizing i with
  | nil => simp at hi
  | cons a out ih =>
    cases i with
    | zero => simp [total]; omega
    | succ i =>
      have := ih (i := i) (by simpa using hi)
      simp only [total, List.set_cons_succ, List.map_cons, List.sum_cons, List.getD_cons_succ] at this ⊢
      omega
theorem stepB_total (p : Int) (out : List (List Int)) (t : Int) : total (stepB p out t) ≤ total out + 1 := by
  unfold stepB
  split
  · omega
  · by_cases hi : t.toNat < out.length
    · have := total_put hi (out.getD t.toNat [] ++ [p])
      rw [List.length_append] at this
      simp only [List.length_cons, List.length_nil] at this
      omega
    · rw [List.set_eq_of_length_le (by omega)]
      omega
theorem rowB_total (p : Int) : ∀ (l : List Int) (out : List (List Int)), total (rowB p out l) ≤ total out + l.length
  | [], out => Nat.le_refl _
  | t :: l, out => by
    have h1 := rowB_total p l (stepB p out t)
    have h2 := stepB_total p out t
    rw [List.length_cons]
    show total (rowB p (stepB p out t) l) ≤ _
    omega
theorem backTo_total (next : List (List Int)) (n : Nat) : ∀ k, k ≤ next.length → total (backTo next n k) ≤ total (next.take k)
  | 0, _ => by simp [backTo, total]
  | k + 1, h => by
    have h1 := backTo_total next n k (by omega)
    have h2 := rowB_total k (next.getD k []) (backTo next n k)
    rw [total_take_succ (by omega), backTo]
    omega
theorem backL_length (next : List (List Int)) (n : Nat) : (backL next n).length = n := backTo_length _ _ _
theorem getD_of_mem {next : List (List Int)} {l : List Int} (h : l ∈ next) : ∃ i, i < next.length ∧ next.getD i [] = l := by
  obtain ⟨i, hi⟩ := List.mem_iff_getElem?.1 h
  exact ⟨i, (List.getElem?_eq_some_iff.1 hi).1, by rw [List.getD_eq_getElem?_getD, hi]; rfl⟩
theorem back_check {next : List (List Int)} (hc : checkB next = true) : checkB (backL next next.length) = true := by
  obtain ⟨h1, h2, h3⟩ := checkB_iff.1 hc
  refine checkB_iff.2 ⟨by rw [backL_length]; exact h1, ?_, fun l hl x hx => ?_⟩
  · have := backTo_total next next.length next.length (Nat.le_refl _)
    rw [List.take_length] at this
    unfold backL
    omega
  · rw [backL_length]
    obtain ⟨i, hi, rfl⟩ := getD_of_mem hl
    exact backTo_pts next next.length next.length _ (Nat.le_refl _) i x hx
theorem back_back {next : List (List Int)} (hc : checkB next = true) (i : Nat) (hi : i < next.length) : (backL (backL next next.length) next.length).getD i [] = Lib.compact (sortL (next.getD i [])) := by
  have h := backL_at (back_check hc) i (by rw [backL_length]; exact hi)
  rw [backL_length] at h
  refine (comp_eq ?_ fun x => ?_).symm
  · rw [h]
    exact range_rise _ _
  · have h2 := backL_mem (back_check hc) i (by rw [backL_length]; exact hi) x
    rw [backL_length] at h2
    rw [h2]
    constructor
    · rintro ⟨h3, h4⟩
      unfold succL at h4
      rw [backL_mem hc x.toNat (by omega)] at h4
      have h5 := h4.2
      unfold succL at h5
      rw [Int.toNat_natCast, show ((x.toNat : Nat) : Int) = x by omega] at h5
      exact h5
    · intro h3
      have h4 := checkB_succ hc i (by omega) x (by unfold succL; rw [Int.toNat_natCast]; exact h3)
      refine ⟨h4, ?_⟩
      unfold succL
      rw [backL_mem hc x.toNat (by omega)]
      refine ⟨by omega, ?_⟩
      unfold succL
      rw [Int.toNat_natCast, show ((x.toNat : Nat) : Int) = x by omega]
      exact h3
structure BackP (next : List (List Int)) (n : Nat) (p q : Nat) : Prop where
  check : checkB (backL next n) = true
  again : ∀ i, i < n → (backL (backL next n) n).getD i [] = Lib.compact (sortL (next.getD i []))
  ways : (waysL next n p).getD q 0 = (waysL (backL next n) n q).getD p 0
  edge : (p : Int) ∈ (backL next n).getD q [] ↔ (q : Int) ∈ next.getD p []
theorem back_plain {next : List (List Int)} (hc : checkB next = true) {p q : Nat} (hp : p < next.length) (hq : q < next.length) : BackP next next.length p q := by
  refine ⟨back_check hc, back_back hc, ?_, ?_⟩
  · have h1 := ways_far hc (s := (p : Int)) (by omega) q hq
    have h2 := ways_far (back_check hc) (s := (q : Int)) (by rw [backL_length]; omega) p (by rw [backL_length]; exact hp)
    rw [backL_length] at h2
    have hs1 := checkB_succ hc
    have hs2 := checkB_succ (back_check hc)
    rw [backL_length] at hs2
    have m : ∀ a b : Int, 0 ≤ a ∧ a < (next.length : Int) → 0 ≤ b ∧ b < (next.length : Int) → (b ∈ succL next a ↔ a ∈ succL (backL next next.length) b) := fun a b ha hb => by
      conv => rhs; unfold succL
      rw [backL_mem hc b.toNat (by omega), show ((b.toNat : Nat) : Int) = b by omega]
      exact ⟨fun h => ⟨ha, h⟩, fun h => h.2⟩
    refine far_eq h1 h2 fun j => ⟨fun h => ?_, fun h => ?_⟩
    · exact h.turn hs1 (by omega) (fun a b ha hb => (m a b ha hb).1)
    · exact h.turn hs2 (by omega) (fun a b ha hb => (m b a hb ha).2)
  · rw [backL_mem hc q hq]
    unfold succL
    rw [Int.toNat_natCast]
    exact ⟨fun h => h.2, fun h => ⟨by omega, h⟩⟩
end Go.Proofs.Ythpdflpkkiabhaa
