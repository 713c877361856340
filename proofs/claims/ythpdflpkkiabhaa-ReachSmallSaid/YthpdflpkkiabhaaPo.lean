/-
  Plain: lists of numbers in order, each once; what Compact leaves of a sorted list. No condition.
-/
import Derived.Test.YthpdflpkkiabhaaCl
namespace Go.Proofs.Ythpdflpkkiabhaa
set_option linter.unusedVariables false
theorem rise_ext : ∀ {a b : List Int}, a.Pairwise (· < ·) → b.Pairwise (· < ·) → (∀ x, x ∈ a ↔ x ∈ b) → a = b
  | [], [], _, _, _ => rfl
  | [], y :: b, _, _, h => absurd ((h y).2 (by simp)) (by simp)
  | x :: a, [], _, _, h => absurd ((h x).1 (by simp)) (by simp)
  | x :: a, y :: b, ha, hb, h => by
    rw [List.pairwise_cons] at ha hb
    have hxy : x = y := by
      rcases List.mem_cons.1 ((h x).1 (by simp)) with e | e
      · exact e
      · have h1 := hb.1 x e
        rcases List.mem_cons.1 ((h y).2 (by simp)) with e2 | e2
        · exact e2.symm
        · have h2 := ha.1 y e2
          omega
    subst hxy
    rw [rise_ext ha.2 hb.2 (fun z => ?_)]
    constructor
    · intro hz
      have := ha.1 z hz
      rcases List.mem_cons.1 ((h z).1 (by simp [hz])) with e | e
      · omega
      · exact e
    · intro hz
      have := hb.1 z hz
      rcases List.mem_cons.1 ((h z).2 (by simp [hz])) with e | e
      · omega
      · exact e
theorem rise_nodup {a : List Int} (h : a.Pairwise (· < ·)) : a.Nodup := h.imp (fun h => by omega)
theorem sortL_le (l : List Int) : (sortL l).Pairwise (· ≤ ·) := by
  have := List.pairwise_mergeSort (le := fun x y : Int => decide (x ≤ y)) (fun a b c h1 h2 => by
    simp only [decide_eq_true_iff] at h1 h2 ⊢
    omega) (fun a b => by
    simp only [Bool.or_eq_true, decide_eq_true_iff]
    omega) l
  exact this.imp (fun h => by simpa using h)
theorem sortL_mem (l : List Int) (x : Int) : x ∈ sortL l ↔ x ∈ l := (List.mergeSort_perm l _).mem_iff
theorem sortL_rise {l : List Int} (h : l.Nodup) : (sortL l).Pairwise (· < ·) := by
  have h1 := sortL_le l
  have h2 : (sortL l).Nodup := h.perm (List.mergeSort_perm l _).symm
  exact List.Pairwise.imp₂ (fun a b h1 h2 => by have : a ≠ b := h2; omega) h1 h2
theorem upTo_inv (S : List Int) (hS : S.Pairwise (· ≤ ·)) : ∀ m, m ≤ S.length → (Lib.compactUpTo S.toArray m).Pairwise (· < ·) ∧ ∀ x, x ∈ Lib.compactUpTo S.toArray m ↔ x ∈ S.take m
  | 0, _ => by simp [Lib.compactUpTo]
  | m + 1, hm => by
    obtain ⟨h1, h2⟩ := upTo_inv S hS m (by omega)
    have e : S.toArray[m]! = S[m] := by rw [getElem!_pos _ _ (by simp; omega)]; simp
    have ht : S.take (m + 1) = S.take m ++ [S[m]] := List.take_succ_eq_append_getElem (by omega)
    rw [Lib.compactUpTo_succ, ht, e]
    by_cases hk : Lib.keeps S.toArray m = true
    · rw [if_pos hk]
      refine ⟨?_, fun x => by rw [List.mem_append, List.mem_append, h2]⟩
      rw [List.pairwise_append]
      refine ⟨h1, by simp, fun a ha b hb => ?_⟩
      rw [List.mem_singleton] at hb
      subst hb
      rw [h2] at ha
      obtain ⟨j, hj, rfl⟩ := List.mem_take_iff_getElem.1 ha
      have hle := List.pairwise_iff_getElem.1 hS
      have hjm : j < m := by omega
      have g1 := hle j m (by omega) (by omega) hjm
      have hne : S[m] ≠ S[m - 1] := by
        unfold Lib.keeps at hk
        rw [decide_eq_true_iff] at hk
        rcases hk with h0 | h0
        · omega
        · rw [e] at h0
          rw [getElem!_pos _ _ (by simp; omega)] at h0
          simpa using h0
      have g2 : S[m - 1] ≤ S[m] := by
        exact hle (m - 1) m (by omega) (by omega) (by omega)
      have g3 : S[j] ≤ S[m - 1] := by
        by_cases hjj : j = m - 1
        · subst hjj; exact Int.le_refl _
        · exact hle j (m - 1) (by omega) (by omega) (by omega)
      omega
    · rw [if_neg hk, List.append_nil]
      refine ⟨h1, fun x => ?_⟩
      rw [h2, List.mem_append]
      constructor
      · exact .inl
      · rintro (h | h)
        · exact h
        · rw [List.mem_singleton] at h
          subst h
          unfold Lib.keeps at hk
          rw [decide_eq_true_iff, not_or] at hk
          have h0 : S.toArray[m]! = S.toArray[m - 1]! := Classical.not_not.1 hk.2
          rw [e, getElem!_pos _ _ (by simp; omega)] at h0
          have h0' : S[m] = S[m - 1] := by simpa using h0
          rw [h0', List.mem_take_iff_getElem]
          exact ⟨m - 1, by omega, rfl⟩
theorem comp_rise (l : List Int) : (Lib.compact (sortL l)).Pairwise (· < ·) := (upTo_inv _ (sortL_le l) _ (Nat.le_refl _)).1
theorem comp_mem (l : List Int) (x : Int) : x ∈ Lib.compact (sortL l) ↔ x ∈ l := by
  rw [show Lib.compact (sortL l) = Lib.compactUpTo (sortL l).toArray (sortL l).length from rfl, (upTo_inv _ (sortL_le l) _ (Nat.le_refl _)).2, List.take_length, sortL_mem]
theorem comp_eq {l a : List Int} (ha : a.Pairwise (· < ·)) (h : ∀ x, x ∈ a ↔ x ∈ l) : Lib.compact (sortL l) = a := rise_ext (comp_rise l) ha (fun x => by rw [comp_mem, h])
theorem rise_sub : ∀ {a b : List Int}, a.Pairwise (· < ·) → b.Pairwise (· < ·) → (∀ x ∈ b, x ∈ a) → b.Sublist a
  | a, [], _, _, _ => List.nil_sublist a
  | [], y :: b, _, _, h => absurd (h y (by simp)) (by simp)
  | x :: a, y :: b, ha, hb, h => by
    have ha2 := List.pairwise_cons.1 ha
    have hb2 := List.pairwise_cons.1 hb
    by_cases hxy : y = x
    · subst hxy
      refine List.Sublist.cons_cons _ (rise_sub ha2.2 hb2.2 fun z hz => ?_)
      have := hb2.1 z hz
      rcases List.mem_cons.1 (h z (by simp [hz])) with e | e
      · omega
      · exact e
    · have hya : y ∈ a := by
        rcases List.mem_cons.1 (h y (by simp)) with e | e
        · exact absurd e hxy
        · exact e
      have := ha2.1 y hya
      refine List.Sublist.cons _ (rise_sub ha2.2 hb fun z hz => ?_)
      rcases List.mem_cons.1 hz with rfl | hz
      · exact hya
      · have := hb2.1 z hz
        rcases List.mem_cons.1 (h z (by simp [hz])) with e | e
        · omega
        · exact e
/-- Two of them, one within the other, of one length. -/
theorem sub_eq {a b : List Int} (ha : a.Pairwise (· < ·)) (hb : b.Pairwise (· < ·)) (h : ∀ x ∈ b, x ∈ a) (hl : a.length = b.length) : a = b := ((rise_sub ha hb h).eq_of_length hl.symm).symm
theorem range_rise (p : Nat → Bool) (k : Nat) : (((List.range k).filter p).map fun (j : Nat) => (j : Int)).Pairwise (· < ·) := by
  rw [List.pairwise_map]
  refine List.Pairwise.imp (R := fun a b : Nat => a < b) (fun h => by omega) ?_
  exact (List.pairwise_lt_range).filter _
end Go.Proofs.Ythpdflpkkiabhaa
