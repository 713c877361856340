/-
  Layer 7, plain: what ReachFinds says. No condition.
-/
import Derived.Test.YthpdflpkkiabhaaPf
import Derived.Test.YthpdflpkkiabhaaAw
namespace Go.Proofs.Ythpdflpkkiabhaa
set_option linter.unusedVariables false
theorem nodup_getD {l : List Int} (h : l.Nodup) {i j : Nat} (hi : i < l.length) (hj : j < l.length) (he : l.getD i 0 = l.getD j 0) : i = j := by
  rw [getD_num hi, getD_num hj] at he
  have hp := List.pairwise_iff_getElem.1 h
  rcases Nat.lt_trichotomy i j with hl | hl | hl
  · exact absurd he (hp i j hi hj hl)
  · exact hl
  · exact absurd he.symm (hp j i hj hi hl)
theorem idxOf_at {l : List Int} (h : l.Nodup) {i : Nat} (hi : i < l.length) : Lib.idxOf l (l.getD i 0) = (i : Int) := by
  unfold Lib.idxOf
  rw [Lib.idxFrom_hit (l.getD i 0) l i 0 hi rfl (fun j hj e => by have := nodup_getD h (by omega) hi e; omega)]
  simp
theorem compact_nodup {l : List Int} (h : l.Nodup) : Lib.compact l = l := by
  refine Lib.compact_all l fun j hj => ?_
  unfold Lib.keeps
  rw [decide_eq_true_iff]
  by_cases h0 : j = 0
  · exact .inl h0
  · right
    intro e
    have e1 : l.toArray[j]! = l.getD j 0 := by
      rw [getElem!_pos _ _ (by simpa using hj), getD_num hj]
      simp
    have e2 : l.toArray[j - 1]! = l.getD (j - 1) 0 := by
      rw [getElem!_pos _ _ (by simp; omega), getD_num (by omega)]
      simp
    rw [e1, e2] at e
    have := nodup_getD h hj (by omega) e
    omega
theorem sortL_perm (l : List Int) : (sortL l).Perm l := List.mergeSort_perm l _
theorem sortL_nodup {l : List Int} (h : l.Nodup) : (sortL l).Nodup := h.perm (sortL_perm l).symm
theorem fromL_nodup {next : List (List Int)} {s : Int} (hc : checkB next = true) (hs : 0 ≤ s ∧ s < (next.length : Int)) : (fromL next next.length s).Nodup := (found_dep (checkB_succ hc) hs).1.once
theorem fromL_mem {next : List (List Int)} {s : Int} (hc : checkB next = true) (hs : 0 ≤ s ∧ s < (next.length : Int)) : ∀ p ∈ fromL next next.length s, 0 ≤ p ∧ p < (next.length : Int) := fun p hp => by
  obtain ⟨y, hy, rfl⟩ := List.mem_map.1 hp
  exact (found_dep (checkB_succ hc) hs).1.pt y hy
/-- What is found is closed. -/
theorem from_closed {next : List (List Int)} {s : Int} (hc : checkB next = true) (hs : 0 ≤ s ∧ s < (next.length : Int)) : closedB next next.length (fromL next next.length s) = true := by
  have hn := fromL_nodup hc hs
  have hd := found_dep (checkB_succ hc) hs
  obtain ⟨A, hA⟩ : ∃ A, fromL next next.length s = A := ⟨_, rfl⟩
  have hm := fromL_mem hc hs
  rw [hA] at hn hm ⊢
  unfold closedB closureL
  rw [compact_nodup (sortL_nodup hn), sortL_length, sortL_length, decide_eq_true_iff]
  have hok := (found_rec (o := -1) (checkB_succ hc) hm (fun _ _ => True) trivial (fun _ _ _ _ _ _ => trivial)).1
  refine ((List.perm_ext_iff_of_nodup hok.once hn).2 fun p => ?_).length_eq
  rw [found_mem (checkB_succ hc) hm p]
  constructor
  · rintro ⟨a, ha, hav⟩
    induction hav with
    | refl _ => exact ha
    | step _ hq ho ih =>
      rw [← hA] at ih ⊢
      obtain ⟨j, b, hj, hb⟩ := getP (F := foundL (succL next) (-1) next.length [s]) ih
      rw [← hb] at hq
      exact (hd.2.done j b (List.getElem?_eq_some_iff.1 hj).1 hj _ hq).1
  · intro hp
    exact ⟨p, hp, .refl (by have := hm p hp; omega)⟩
structure FindsP (next : List (List Int)) (n : Nat) (s : Int) (A W : List Int) : Prop where
  first : 0 < A.length ∧ A.getD 0 0 = s
  pt : ∀ i, i < A.length → 0 ≤ A.getD i 0 ∧ A.getD i 0 < (n : Int)
  idx : ∀ i, i < A.length → Lib.idxOf A (A.getD i 0) = (i : Int)
  w0 : W.getD s.toNat 0 = 0
  led : ∀ i, 0 < i → i < A.length → (A.take i).any (fun q => decide (A.getD i 0 ∈ succL next q) && decide (W.getD q.toNat 0 = W.getD (A.getD i 0).toNat 0 - 1)) = true
  step : ∀ i, 0 < i → i < A.length → W.getD (A.getD (i - 1) 0).toNat 0 ≤ W.getD (A.getD i 0).toNat 0 ∧ W.getD (A.getD i 0).toNat 0 ≤ W.getD (A.getD (i - 1) 0).toNat 0 + 1
  far : ∀ p : Nat, p < n → (0 ≤ W.getD p 0 ↔ (p : Int) ∈ A) ∧ -1 ≤ W.getD p 0
  on : ∀ p : Nat, p < n → 0 ≤ W.getD p 0 → ∀ t ∈ succL next p, 0 ≤ W.getD t.toNat 0 ∧ W.getD t.toNat 0 ≤ W.getD p 0 + 1
theorem finds {next : List (List Int)} {s : Int} (hc : checkB next = true) (hs : 0 ≤ s ∧ s < (next.length : Int)) : FindsP next next.length s (fromL next next.length s) (waysL next next.length s) := by
  obtain ⟨hok, hd⟩ := found_dep (checkB_succ hc) hs
  have hn := fromL_nodup hc hs
  have hm := fromL_mem hc hs
  obtain ⟨L, hL⟩ : ∃ L, foundL (succL next) (-1) next.length [s] = L := ⟨_, rfl⟩
  have hA : fromL next next.length s = L.map Prod.fst := by unfold fromL; rw [hL]
  have hW : ∀ y : Int, (waysL next next.length s).getD y.toNat 0 = dW next.length L y := fun y => by unfold waysL dW; rw [hL]
  rw [hL] at hok hd
  rw [hA] at hn hm ⊢
  have hl : (L.map Prod.fst).length = L.length := by simp
  have hat : ∀ i a, L[i]? = some a → (L.map Prod.fst).getD i 0 = a.1 := fun i a h => by
    rw [List.getD_eq_getElem?_getD, List.getElem?_map, h]
    rfl
  have ex : ∀ i, i < (L.map Prod.fst).length → ∃ a, L[i]? = some a := fun i hi => ⟨_, List.getElem?_eq_getElem (by simpa using hi)⟩
  have hl0 : 0 < L.length := (List.getElem?_eq_some_iff.1 hd.hd).1
  have hWn : ∀ p : Nat, (waysL next next.length s).getD p 0 = dW next.length L p := fun p => by have := hW p; rwa [Int.toNat_natCast] at this
  refine ⟨⟨by omega, hat 0 _ hd.hd⟩, fun i hi => hm _ (by rw [getD_num hi]; exact List.getElem_mem _), fun i hi => idxOf_at hn hi, by rw [hW]; exact hd.st0, ?_, ?_, ?_, ?_⟩
  · intro i hi0 hi
    obtain ⟨a, ha⟩ := ex i hi
    obtain ⟨j, b, hj, hb, h1, h2, h3⟩ := hd.led i a hi0 ha
    rw [hat i a ha]
    refine List.any_eq_true.2 ⟨b.1, ?_, ?_⟩
    · rw [List.mem_take_iff_getElem]
      have hjl := (List.getElem?_eq_some_iff.1 hb).1
      refine ⟨j, by simp; omega, ?_⟩
      rw [List.getElem_map]
      rw [List.getElem?_eq_getElem hjl] at hb
      cases hb
      rfl
    · rw [Bool.and_eq_true, decide_eq_true_iff, decide_eq_true_iff, hW, hW, h1]
      exact ⟨h2, by omega⟩
  · intro i hi0 hi
    obtain ⟨a, ha⟩ := ex i hi
    obtain ⟨b, hb⟩ := ex (i - 1) (by omega)
    rw [hat i a ha, hat (i - 1) b hb, hW, hW]
    refine ⟨hd.mono (i - 1) i b a (by omega) hb ha, ?_⟩
    obtain ⟨j, c, hj, hcj, h1, h2, h3⟩ := hd.led i a hi0 ha
    rw [h3, ← h1]
    have := hd.mono j (i - 1) c b (by omega) hcj hb
    omega
  · intro p hp
    rw [hWn]
    by_cases hin : (p : Int) ∈ L.map Prod.fst
    · obtain ⟨j, b, hj, hb⟩ := getP hin
      have := hd.nn b (List.mem_of_getElem? hj)
      rw [hb] at this
      exact ⟨⟨fun _ => hin, fun _ => this⟩, by omega⟩
    · have := hd.out p (by omega) (by omega) hin
      exact ⟨⟨fun h => by omega, fun h => absurd h hin⟩, by omega⟩
  · intro p hp h0 t ht
    rw [hWn p] at h0 ⊢
    rw [hW t]
    have hin : (p : Int) ∈ L.map Prod.fst := by
      by_cases hin : (p : Int) ∈ L.map Prod.fst
      · exact hin
      · have := hd.out p (by omega) (by omega) hin
        omega
    obtain ⟨j, b, hj, hb⟩ := getP hin
    have h2 := hd.done j b (List.getElem?_eq_some_iff.1 hj).1 hj t (by rw [hb]; exact ht)
    rw [hb] at h2
    obtain ⟨j2, b2, hj2, hb2⟩ := getP h2.1
    have := hd.nn b2 (List.mem_of_getElem? hj2)
    rw [hb2] at this
    exact ⟨this, h2.2⟩
end Go.Proofs.Ythpdflpkkiabhaa
