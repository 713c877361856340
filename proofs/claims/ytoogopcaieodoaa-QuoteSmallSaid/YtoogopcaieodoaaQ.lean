/-
  Texts in quotes: the plain law. No condition.
-/
import Derived.Test.YtoogopcaieodoaaO
namespace Go.Proofs.Ytoogopcaieodoaa
open Go.RowKit
theorem formsL_cons (m : Mk) (c : UInt8) (r : List UInt8) : formsL m (c :: r) = formB m c ++ formsL m r := by simp only [formsL_eq, List.flatMap_cons]
theorem unqF_step (g k : Nat) (out : List UInt8) (c : UInt8) (t : List UInt8) : unqF (g + 1) k out (formB qm c ++ t) = unqF g (k + (formB qm c).length) (out ++ [c]) t := by
  have hp := formB_pos qm c
  obtain ⟨x, y, hxy⟩ : ∃ x y, formB qm c = x :: y := by
    cases hh : formB qm c with
    | nil => rw [hh] at hp; simp at hp
    | cons x y => exact ⟨x, y, rfl⟩
  have hx34 : ¬ (x.toNat : Int) = 34 := by
    rcases formB_head qm c with ⟨r', hr⟩ | ⟨h1, h2, h3, h4, h5⟩
    · rw [hxy] at hr
      cases hr
      decide
    · rw [hxy] at h1
      cases h1
      intro h
      rw [h] at h3
      revert h3
      decide
  have hr := rdB_form qm c t
  have hd : (formB qm c ++ t).drop (formB qm c).length = t := by simp
  rw [hxy] at hr hd ⊢
  simp only [List.cons_append] at hr hd ⊢
  simp only [unqF]
  rw [if_neg hx34, hr]
  simp only [ne_eq, not_true_eq_false, ↓reduceIte, Int.toNat_natCast]
  rw [hd, show UInt8.ofNat c.toNat = c by simp]
theorem unqF_nil (f k : Nat) (out : List UInt8) : unqF f k out [] = ([], (k : Int), 21) := by
  cases f <;> rfl
theorem unqF_cut : ∀ (B : List UInt8) (j f k : Nat) (out : List UInt8), j ≤ (formsL qm B).length → j < f → ∃ (i : Nat) (e : Int), unqF f k out ((formsL qm B).take j) = ([], (k : Int) + i, e) ∧ ((e = 20 ∧ i < j ∧ (formsL qm B)[i]? = some 92) ∨ (e = 21 ∧ i = j))
  | [], j, f, k, out, hj, _ => by
    obtain rfl : j = 0 := by simpa [formsL] using hj
    refine ⟨0, 21, ?_, .inr ⟨rfl, rfl⟩⟩
    rw [List.take_zero, unqF_nil]
    simp
  | c :: r, j, f, k, out, hj, hf => by
    rw [formsL_cons] at hj ⊢
    rw [List.length_append] at hj
    rcases Nat.eq_zero_or_pos j with rfl | h0
    · refine ⟨0, 21, ?_, .inr ⟨rfl, rfl⟩⟩
      rw [List.take_zero, unqF_nil]
      simp
    · obtain ⟨g, rfl⟩ : ∃ g, f = g + 1 := ⟨f - 1, by omega⟩
      have hp := formB_pos qm c
      rcases Nat.lt_or_ge j (formB qm c).length with hlt | hge
      · obtain ⟨h1, h2⟩ := rdB_cut qm c j h0 hlt
        have e1 : (formB qm c ++ formsL qm r).take j = (formB qm c).take j := List.take_append_of_le_length (by omega)
        have e2 : (formB qm c ++ formsL qm r)[0]? = some 92 := by
          rw [List.getElem?_append_left hp]
          rw [List.getElem?_take, if_pos h0] at h1
          exact h1
        refine ⟨0, 20, ?_, .inl ⟨rfl, h0, e2⟩⟩
        rw [e1]
        obtain ⟨y, hxy⟩ : ∃ y, (formB qm c).take j = 92 :: y := by
          cases hh : (formB qm c).take j with
          | nil => rw [hh] at h1; simp at h1
          | cons x y =>
            rw [hh] at h1
            simp at h1
            exact ⟨y, by rw [h1]⟩
        rw [hxy] at h2 ⊢
        simp only [unqF]
        rw [if_neg (by decide), h2]
        simp
      · have e1 : (formB qm c ++ formsL qm r).take j = formB qm c ++ (formsL qm r).take (j - (formB qm c).length) := by
          rw [List.take_append, List.take_of_length_le hge]
        obtain ⟨i, e, ih, h⟩ := unqF_cut r (j - (formB qm c).length) g (k + (formB qm c).length) (out ++ [c]) (by omega) (by omega)
        refine ⟨i + (formB qm c).length, e, ?_, ?_⟩
        · rw [e1, unqF_step, ih]
          simp only [Prod.mk.injEq, true_and, and_true]
          omega
        · rcases h with ⟨h1, h2, h3⟩ | ⟨h1, h2⟩
          · refine .inl ⟨h1, by omega, ?_⟩
            rw [List.getElem?_append_right (by omega)]
            rw [← h3]
            congr 1
            omega
          · exact .inr ⟨h1, by omega⟩
/-- A text in quotes, as a list. -/
def qtd (B : List UInt8) : List UInt8 := 34 :: (formsL qm B ++ [34])
theorem unq_texts (B T : List UInt8) : unq (qtd B ++ T) = (B, ((qtd B).length : Int), 0) := by
  obtain ⟨g, hg, h⟩ := unqF_forms B ((formsL qm B).length + (T.length + 1) + 1) 1 [] (34 :: T) (by simp)
  obtain ⟨g, rfl⟩ : ∃ g', g = g' + 1 := ⟨g - 1, by omega⟩
  have e : qtd B ++ T = 34 :: (formsL qm B ++ 34 :: T) := by simp [qtd]
  have el : (formsL qm B ++ 34 :: T).length + 1 = (formsL qm B).length + (T.length + 1) + 1 := by simp
  rw [e]
  simp only [unq]
  rw [if_pos (by decide), el, h]
  simp only [unqF]
  rw [if_pos (by decide)]
  simp only [qtd, List.nil_append, List.length_cons, List.length_append, List.length_nil, Prod.mk.injEq, true_and, and_true]
  omega
theorem unq_cut (B : List UInt8) (k : Nat) (hk : k < (qtd B).length) : ∃ (i : Nat) (e : Int), unq ((qtd B).take k) = ([], (i : Int), e) ∧ ((e = 20 ∧ 0 < i ∧ i < k ∧ (qtd B)[i]? = some 92) ∨ (e = 21 ∧ i = k)) := by
  rcases Nat.eq_zero_or_pos k with rfl | h0
  · exact ⟨0, 21, rfl, .inr ⟨rfl, rfl⟩⟩
  · obtain ⟨j, rfl⟩ : ∃ j, k = j + 1 := ⟨k - 1, by omega⟩
    have hl : (qtd B).length = (formsL qm B).length + 2 := by simp [qtd]
    have e1 : (qtd B).take (j + 1) = 34 :: (formsL qm B).take j := by
      simp only [qtd, List.take_succ_cons]
      rw [List.take_append_of_le_length (by omega)]
    obtain ⟨i, e, ih, h⟩ := unqF_cut B j (((formsL qm B).take j).length + 1) 1 [] (by omega) (by rw [List.length_take]; omega)
    refine ⟨i + 1, e, ?_, ?_⟩
    · rw [e1]
      simp only [unq]
      rw [if_pos (by decide), ih]
      simp only [Prod.mk.injEq, true_and, and_true]
      omega
    · rcases h with ⟨h1, h2, h3⟩ | ⟨h1, h2⟩
      · refine .inl ⟨h1, by omega, by omega, ?_⟩
        simp only [qtd, List.getElem?_cons_succ]
        rw [List.getElem?_append_left (by
          rcases Nat.lt_or_ge i (formsL qm B).length with h | h
          · exact h
          · rw [List.getElem?_eq_none h] at h3
            cases h3)]
        exact h3
      · exact .inr ⟨h1, by omega⟩
theorem unq_other_head (l : List UInt8) : unq (120 :: l) = ([], 0, 21) := rfl
end Go.Proofs.Ytoogopcaieodoaa
