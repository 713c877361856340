/-
  What is written is read back: the plain law. No condition.
-/
import Derived.Test.YtoogopcaieodoaaQ
import Derived.Test.YtoogopcaieodoaaN
namespace Go.Proofs.Ytoogopcaieodoaa
open Go.RowKit
/-- A way to write a byte. -/
def Says (m : Mk) (c : UInt8) (x : List UInt8) : Prop := 0 < x.length ∧ ∀ t, rdB m (x ++ t) = ((c.toNat : Int), (x.length : Int), 0)
theorem says_form (m : Mk) (c : UInt8) : Says m c (formB m c) := ⟨formB_pos m c, rdB_form m c⟩
theorem rdsF_says (m : Mk) : ∀ (L : List (UInt8 × List UInt8)) (f k : Nat) (out t : List UInt8), (∀ x ∈ L, Says m x.1 x.2) → (L.flatMap (·.2)).length + t.length < f →
    ∃ g, t.length < g ∧ rdsF m f k out (L.flatMap (·.2) ++ t) = rdsF m g (k + (L.flatMap (·.2)).length) (out ++ L.map (·.1)) t
  | [], f, k, out, t, _, hf => ⟨f, by simpa using hf, by simp⟩
  | x :: L, f, k, out, t, hL, hf => by
    obtain ⟨hp, hr⟩ := hL x (List.mem_cons_self ..)
    rw [List.flatMap_cons, List.length_append] at hf
    obtain ⟨g, rfl⟩ : ∃ g, f = g + 1 := ⟨f - 1, by omega⟩
    obtain ⟨g', hg', ih⟩ := rdsF_says m L g (k + x.2.length) (out ++ [x.1]) t (fun y hy => hL y (List.mem_cons_of_mem _ hy)) (by omega)
    refine ⟨g', hg', ?_⟩
    have hr := hr (L.flatMap (·.2) ++ t)
    have hd : (x.2 ++ (L.flatMap (·.2) ++ t)).drop x.2.length = L.flatMap (·.2) ++ t := by simp
    rw [List.flatMap_cons, List.append_assoc, List.length_append]
    obtain ⟨p, q, hpq⟩ : ∃ p q, x.2 = p :: q := by
      cases hh : x.2 with
      | nil => rw [hh] at hp; simp at hp
      | cons p q => exact ⟨p, q, rfl⟩
    rw [hpq] at hr hd ⊢
    simp only [List.cons_append] at hr hd ⊢
    simp only [rdsF]
    rw [hr]
    simp only [ne_eq, not_true_eq_false, ↓reduceIte, Int.toNat_natCast]
    rw [hd, show UInt8.ofNat x.1.toNat = x.1 by simp, ← hpq, ih, List.append_assoc, Nat.add_assoc]
    rfl
theorem formsL_pairs (m : Mk) (A : List UInt8) : (A.map fun c => (c, formB m c)).flatMap (·.2) = formsL m A ∧ (A.map fun c => (c, formB m c)).map (·.1) = A := by
  constructor
  · rw [formsL_eq, List.flatMap_map]
  · rw [List.map_map]
    exact List.map_id' _
theorem rdsF_nil (m : Mk) (f k : Nat) (out : List UInt8) : rdsF m f k out [] = (out, (k : Int), 0) := by
  cases f <;> rfl
theorem rds_says (m : Mk) (L : List (UInt8 × List UInt8)) (hL : ∀ x ∈ L, Says m x.1 x.2) : rds m (L.flatMap (·.2)) = (L.map (·.1), ((L.flatMap (·.2)).length : Int), 0) := by
  obtain ⟨g, _, h⟩ := rdsF_says m L ((L.flatMap (·.2)).length + 1) 0 [] [] hL (by simp)
  rw [List.append_nil] at h
  unfold rds
  rw [h, rdsF_nil]
  simp
theorem rds_forms (m : Mk) (A : List UInt8) : rds m (formsL m A) = (A, ((formsL m A).length : Int), 0) := by
  obtain ⟨h1, h2⟩ := formsL_pairs m A
  have := rds_says m (A.map fun c => (c, formB m c)) (fun x hx => by
    obtain ⟨c, _, rfl⟩ := List.mem_map.1 hx
    exact says_form m c)
  rw [h1, h2] at this
  exact this
/-- What is the form of no byte is told by its index. -/
theorem rds_wrong (m : Mk) (A z : List UInt8) (hz : 0 < z.length) (h : (rdB m z).2.2 ≠ 0) : rds m (formsL m A ++ z) = ([], ((formsL m A).length : Int), 20) := by
  obtain ⟨h1, h2⟩ := formsL_pairs m A
  obtain ⟨g, hg, e⟩ := rdsF_says m (A.map fun c => (c, formB m c)) ((formsL m A ++ z).length + 1) 0 [] z (fun x hx => by
    obtain ⟨c, _, rfl⟩ := List.mem_map.1 hx
    exact says_form m c) (by rw [h1, List.length_append]; omega)
  rw [h1] at e
  unfold rds
  rw [e]
  obtain ⟨g, rfl⟩ : ∃ g', g = g' + 1 := ⟨g - 1, by omega⟩
  cases z with
  | nil => simp at hz
  | cons a b =>
    simp only [rdsF]
    rw [if_pos h]
    simp
theorem forms_inj (m : Mk) (A B : List UInt8) (h : formsL m A = formsL m B) : A = B := by
  have h1 := rds_forms m A
  have h2 := rds_forms m B
  rw [h, h2] at h1
  simp only [Prod.mk.injEq] at h1
  exact h1.1.symm
theorem hx_plain (m : Mk) (n : Nat) (h : n < 16) : isMk m ((hx n).toNat : Int) = false ∧ 32 ≤ (hx n).toNat ∧ (hx n).toNat ≤ 126 ∧ hx n ≠ 92 := by
  have a : ∀ n : Fin 16, (letterB ((hx n.val).toNat : Int) = true ∨ digitB ((hx n.val).toNat : Int) = true) ∧ 32 ≤ (hx n.val).toNat ∧ (hx n.val).toNat ≤ 126 ∧ hx n.val ≠ 92 := by decide
  obtain ⟨h1, h2, h3, h4⟩ := a ⟨n, h⟩
  refine ⟨?_, h2, h3, h4⟩
  cases e : isMk m ((hx n).toNat : Int) with
  | false => rfl
  | true =>
    obtain ⟨_, _, p, q⟩ := isMk_letter m _ e
    simp only [] at h1
    rw [p, q] at h1
    simp at h1
/-- What forms look like, with the bytes' bounds. -/
theorem formB_bytes (m : Mk) (c : UInt8) : (∃ d : UInt8, formB m c = [92, d] ∧ 32 ≤ d.toNat ∧ d.toNat ≤ 126) ∨ (∃ x y, formB m c = [92, 120, hx x, hx y] ∧ x < 16 ∧ y < 16) ∨ (formB m c = [c] ∧ c ≠ 92 ∧ isMk m (c.toNat : Int) = false ∧ 32 ≤ c.toNat ∧ c.toNat ≤ 126) := by
  have hb := c.toNat_lt
  unfold formB
  split
  · exact .inl ⟨_, rfl, by decide, by decide⟩
  · split
    · exact .inl ⟨_, rfl, by decide, by decide⟩
    · split
      · exact .inl ⟨_, rfl, by decide, by decide⟩
      · split
        · exact .inr (.inl ⟨_, _, rfl, by omega, by omega⟩)
        · split
          · exact .inl ⟨_, rfl, by omega, by omega⟩
          · rename_i h1 h2
            refine .inr (.inr ⟨rfl, fun h => h2 (.inl h), ?_, by omega, by omega⟩)
            cases e : isMk m (c.toNat : Int) with
            | false => rfl
            | true => exact absurd (.inr e) h2
/-- A mark, but the backslash, stands just behind a backslash. -/
theorem forms_marks (m : Mk) : ∀ (A : List UInt8) (i : Nat) (d : UInt8), (formsL m A)[i]? = some d → 32 ≤ d.toNat ∧ d.toNat ≤ 126 ∧ (d = 92 ∨ isMk m (d.toNat : Int) = false ∨ 0 < i ∧ (formsL m A)[i - 1]? = some 92)
  | [], i, d, h => by simp [formsL] at h
  | c :: r, i, d, h => by
    rw [formsL_cons] at h ⊢
    have hp := formB_pos m c
    rcases Nat.lt_or_ge i (formB m c).length with hlt | hge
    · rw [List.getElem?_append_left hlt] at h
      have hprev : 0 < i → (formB m c)[i - 1]? = some 92 → (formB m c ++ formsL m r)[i - 1]? = some 92 := fun h0 h1 => by
        rw [List.getElem?_append_left (by omega)]
        exact h1
      rcases formB_bytes m c with ⟨e, he, h1, h2⟩ | ⟨x, y, he, hx', hy'⟩ | ⟨he, h1, h2, h3, h4⟩
      · rw [he] at h hlt
        simp at hlt
        obtain rfl | rfl : i = 0 ∨ i = 1 := by omega
        · simp at h
          subst h
          exact ⟨by decide, by decide, .inl rfl⟩
        · simp at h
          subst h
          exact ⟨h1, h2, .inr (.inr ⟨by decide, hprev (by decide) (by rw [he]; rfl)⟩)⟩
      · rw [he] at h hlt
        simp at hlt
        obtain rfl | rfl | rfl | rfl : i = 0 ∨ i = 1 ∨ i = 2 ∨ i = 3 := by omega
        · simp at h
          subst h
          exact ⟨by decide, by decide, .inl rfl⟩
        · simp at h
          subst h
          exact ⟨by decide, by decide, .inr (.inr ⟨by decide, hprev (by decide) (by rw [he]; rfl)⟩)⟩
        · simp at h
          subst h
          obtain ⟨p, q, s, _⟩ := hx_plain m x hx'
          exact ⟨q, s, .inr (.inl p)⟩
        · simp at h
          subst h
          obtain ⟨p, q, s, _⟩ := hx_plain m y hy'
          exact ⟨q, s, .inr (.inl p)⟩
      · rw [he] at h hlt
        simp at hlt
        subst hlt
        simp at h
        subst h
        exact ⟨h3, h4, .inr (.inl h2)⟩
    · rw [List.getElem?_append_right hge] at h
      obtain ⟨h1, h2, h3⟩ := forms_marks m r _ d h
      refine ⟨h1, h2, ?_⟩
      rcases h3 with h3 | h3 | ⟨h3, h4⟩
      · exact .inl h3
      · exact .inr (.inl h3)
      · refine .inr (.inr ⟨by omega, ?_⟩)
        rw [List.getElem?_append_right (by omega)]
        rw [← h4]
        congr 1
        omega
end Go.Proofs.Ytoogopcaieodoaa
