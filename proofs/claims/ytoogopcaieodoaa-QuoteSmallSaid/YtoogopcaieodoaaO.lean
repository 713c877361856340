/-
  The forms of bytes, and their reading: the plain law. No condition.
-/
import Derived.Test.YtoogopcaieodoaaI
namespace Go.Proofs.Ytoogopcaieodoaa
open Go.RowKit
/-- A hexadecimal digit. -/
def hx (n : Nat) : UInt8 := hexL[n]?.getD 0
/-- The form of a byte, as a list. -/
def formB (m : Mk) (c : UInt8) : List UInt8 :=
  if c = 10 then [92, 110] else if c = 13 then [92, 114] else if c = 9 then [92, 116]
  else if c.toNat < 32 ∨ 126 < c.toNat then [92, 120, hx (c.toNat / 16), hx (c.toNat % 16)]
  else if c = 92 ∨ isMk m (c.toNat : Int) = true then [92, c] else [c]
theorem u8_int (c d : UInt8) : (c.toNat : Int) = (d.toNat : Int) ↔ c = d := by
  constructor
  · intro h
    exact UInt8.toNat_inj.1 (by omega)
  · rintro rfl
    rfl
theorem u8_back (c : UInt8) : UInt8.ofNat (c.toNat : Int).toNat = c := by simp
theorem formB_eq (m : Mk) (c : UInt8) : (form m (c.toNat : Int)).data.toList = formB m c := by
  have e92 : (c.toNat : Int) = 92 ↔ c = 92 := u8_int c 92
  have h1 : ((c.toNat : Int) / 16).toNat = c.toNat / 16 := by omega
  have h2 : ((c.toNat : Int) % 16).toNat = c.toNat % 16 := by omega
  have hb := c.toNat_lt
  unfold form formB
  simp only [show (10 : Int) = ((10 : UInt8).toNat : Int) from rfl, show (13 : Int) = ((13 : UInt8).toNat : Int) from rfl, show (9 : Int) = ((9 : UInt8).toNat : Int) from rfl, u8_int]
  split
  · rfl
  · split
    · rfl
    · split
      · rfl
      · by_cases h : c.toNat < 32 ∨ 126 < c.toNat
        · rw [if_pos (by omega), if_pos h]
          simp only [hexB, h1, h2, hx]
          rw [strOfNums_data]
          simp
        · rw [if_neg (by omega), if_neg h]
          by_cases hm : c = 92 ∨ isMk m (c.toNat : Int) = true
          · rw [if_pos (by rcases hm with h | h; exact .inl (by rw [h]; rfl); exact .inr h), if_pos hm]
            rw [strOfNums_data]
            simp
          · rw [if_neg (by rintro (h | h); exact hm (.inl (e92.1 h)); exact hm (.inr h)), if_neg hm]
            rw [strOfNums_data]
            simp
theorem formsL_eq (m : Mk) (l : List UInt8) : formsL m l = l.flatMap (formB m) := by
  unfold formsL
  congr 1
  funext c
  exact formB_eq m c
theorem nib_hx : ∀ n : Nat, n < 16 → nib ((hx n).toNat : Int) = (n : Int) := by
  intro n hn
  have h : ∀ a : Fin 16, nib ((hx a.val).toNat : Int) = (a.val : Int) := by decide
  exact h ⟨n, hn⟩
theorem isMk_letter (m : Mk) (c : Int) (h : isMk m c = true) : 32 ≤ c ∧ c ≤ 126 ∧ letterB c = false ∧ digitB c = false := by
  unfold isMk at h
  simp only [Bool.and_eq_true, decide_eq_true_eq, Bool.not_eq_true'] at h
  obtain ⟨⟨⟨⟨_, h1⟩, h2⟩, h3⟩, h4⟩ := h
  exact ⟨h1, h2, h3, h4⟩
theorem letterB_of (c : Int) (h : 97 ≤ c) (h2 : c ≤ 122) : letterB c = true := by
  have h : ∀ a : Fin 123, 97 ≤ a.val → letterB (a.val : Int) = true := by decide
  have := h ⟨c.toNat, by omega⟩ (by simp only []; omega)
  simpa [Int.toNat_of_nonneg (show 0 ≤ c by omega)] using this
theorem isMk_low (m : Mk) (c : Int) (h : 97 ≤ c) (h2 : c ≤ 122) : isMk m c = false := by
  cases e : isMk m c with
  | false => rfl
  | true =>
    have := (isMk_letter m c e).2.2.1
    rw [letterB_of c h h2] at this
    cases this
/-- A form is read back, whatever is behind it. -/
theorem rdB_form (m : Mk) (c : UInt8) (t : List UInt8) : rdB m (formB m c ++ t) = ((c.toNat : Int), ((formB m c).length : Int), 0) := by
  have hb := c.toNat_lt
  have l110 := isMk_low m 110 (by decide) (by decide)
  have l114 := isMk_low m 114 (by decide) (by decide)
  have l116 := isMk_low m 116 (by decide) (by decide)
  by_cases h10 : c = 10
  · subst h10
    show rdB m (92 :: 110 :: t) = _
    simp [rdB, rdE, l110, formB]
  by_cases h13 : c = 13
  · subst h13
    show rdB m (92 :: 114 :: t) = _
    simp [rdB, rdE, l114, formB]
  by_cases h9 : c = 9
  · subst h9
    show rdB m (92 :: 116 :: t) = _
    simp [rdB, rdE, l116, formB]
  by_cases hx1 : c.toNat < 32 ∨ 126 < c.toNat
  · have e : formB m c = [92, 120, hx (c.toNat / 16), hx (c.toNat % 16)] := by simp only [formB, h10, h13, h9, ↓reduceIte, if_pos hx1]
    rw [e]
    have n1 := nib_hx (c.toNat / 16) (by omega)
    have n2 := nib_hx (c.toNat % 16) (Nat.mod_lt _ (by decide))
    show rdB m (92 :: 120 :: hx (c.toNat / 16) :: hx (c.toNat % 16) :: t) = _
    simp only [rdB, rdE, show (((92 : UInt8).toNat : Nat) : Int) = 92 from rfl, show (((120 : UInt8).toNat : Nat) : Int) = 120 from rfl, ↓reduceIte, n1, n2]
    rw [if_pos (by omega)]
    simp only [List.length_cons, List.length_nil, Prod.mk.injEq]
    exact ⟨by omega, rfl, trivial⟩
  by_cases hm : c = 92 ∨ isMk m (c.toNat : Int) = true
  · have e : formB m c = [92, c] := by simp only [formB, h10, h13, h9, ↓reduceIte, if_neg hx1, if_pos hm]
    rw [e]
    show rdB m (92 :: c :: t) = _
    have n120 : ¬ (c.toNat : Int) = 120 := by
      intro h
      rcases hm with rfl | hm
      · simp at h
      · rw [h, isMk_low m 120 (by decide) (by decide)] at hm
        cases hm
    simp only [rdB, rdE, show (((92 : UInt8).toNat : Nat) : Int) = 92 from rfl, ↓reduceIte, if_neg n120]
    rw [if_pos (by rcases hm with h | h; exact .inl (by rw [h]; rfl); exact .inr h)]
    rfl
  · have e : formB m c = [c] := by simp only [formB, h10, h13, h9, ↓reduceIte, if_neg hx1, if_neg hm]
    rw [e]
    show rdB m (c :: t) = _
    have h92 : ¬ (c.toNat : Int) = 92 := fun h => hm (.inl ((u8_int c 92).1 h))
    have hf : isMk m (c.toNat : Int) = false := by
      cases e : isMk m (c.toNat : Int) with
      | false => rfl
      | true => exact absurd (.inr e) hm
    simp only [rdB, if_neg h92]
    rw [if_pos ⟨by omega, by omega, hf⟩]
    rfl
/-- What forms look like. -/
theorem formB_shape (m : Mk) (c : UInt8) : (∃ d, formB m c = [92, d]) ∨ (∃ x y, formB m c = [92, 120, hx x, hx y] ∧ x < 16 ∧ y < 16) ∨ (formB m c = [c] ∧ c ≠ 92 ∧ isMk m (c.toNat : Int) = false ∧ 32 ≤ c.toNat ∧ c.toNat ≤ 126) := by
  have hb := c.toNat_lt
  unfold formB
  split
  · exact .inl ⟨_, rfl⟩
  · split
    · exact .inl ⟨_, rfl⟩
    · split
      · exact .inl ⟨_, rfl⟩
      · split
        · exact .inr (.inl ⟨_, _, rfl, by omega, by omega⟩)
        · split
          · exact .inl ⟨_, rfl⟩
          · rename_i h1 h2
            refine .inr (.inr ⟨rfl, fun h => h2 (.inl h), ?_, by omega, by omega⟩)
            cases e : isMk m (c.toNat : Int) with
            | false => rfl
            | true => exact absurd (.inr e) h2
/-- A form that is cut off is none. -/
theorem rdB_cut (m : Mk) (c : UInt8) (i : Nat) (h0 : 0 < i) (h1 : i < (formB m c).length) : ((formB m c).take i)[0]? = some 92 ∧ rdB m ((formB m c).take i) = (0, 0, 20) := by
  rcases formB_shape m c with ⟨d, e⟩ | ⟨x, y, e, _, _⟩ | ⟨e, _⟩
  · rw [e] at h1 ⊢
    obtain rfl : i = 1 := by simp at h1; omega
    exact ⟨rfl, rfl⟩
  · rw [e] at h1 ⊢
    obtain h | h | h : i = 1 ∨ i = 2 ∨ i = 3 := by simp at h1; omega
    all_goals
      subst h
      exact ⟨rfl, rfl⟩
  · rw [e] at h1
    simp at h1
    omega
theorem formB_pos (m : Mk) (c : UInt8) : 0 < (formB m c).length := by
  rcases formB_shape m c with ⟨d, e⟩ | ⟨x, y, e, _, _⟩ | ⟨e, _⟩ <;> rw [e] <;> simp
/-- The form of a byte begins with a backslash, or it is that byte, which is none and no mark. -/
theorem formB_head (m : Mk) (c : UInt8) : (∃ r, formB m c = 92 :: r) ∨ (formB m c = [c] ∧ c ≠ 92 ∧ isMk m (c.toNat : Int) = false ∧ 32 ≤ c.toNat ∧ c.toNat ≤ 126) := by
  rcases formB_shape m c with ⟨d, e⟩ | ⟨x, y, e, _, _⟩ | h
  · exact .inl ⟨_, e⟩
  · exact .inl ⟨_, e⟩
  · exact .inr h
/-- The forms of bytes are read back, whatever is behind them. -/
theorem unqF_forms : ∀ (b : List UInt8) (f k : Nat) (out t : List UInt8), (formsL qm b).length + t.length < f → ∃ g, t.length < g ∧ unqF f k out (formsL qm b ++ t) = unqF g (k + (formsL qm b).length) (out ++ b) t
  | [], f, k, out, t, h => ⟨f, by simp [formsL] at h; exact h, by simp [formsL]⟩
  | c :: r, f, k, out, t, h => by
    obtain ⟨g, rfl⟩ : ∃ g, f = g + 1 := ⟨f - 1, by omega⟩
    have e : formsL qm (c :: r) = formB qm c ++ formsL qm r := by simp only [formsL_eq, List.flatMap_cons]
    have hp := formB_pos qm c
    rw [e, List.length_append] at h
    obtain ⟨g', hg', ih⟩ := unqF_forms r g (k + (formB qm c).length) (out ++ [c]) t (by omega)
    refine ⟨g', hg', ?_⟩
    rw [e, List.append_assoc, List.length_append]
    obtain ⟨x, y, hxy⟩ : ∃ x y, formB qm c = x :: y := by
      cases hh : formB qm c with
      | nil => rw [hh] at hp; simp at hp
      | cons x y => exact ⟨x, y, rfl⟩
    have hx34 : ¬ (x.toNat : Int) = 34 := by
      rcases formB_head qm c with ⟨r', hr⟩ | ⟨h1, h2, h3, h4, h5⟩
      · rw [hxy] at hr
        cases hr
        decide
      · rw [hxy] at h1
        cases h1
        intro h
        rw [h] at h3
        revert h3
        decide
    have hr := rdB_form qm c (formsL qm r ++ t)
    have hd : (formB qm c ++ (formsL qm r ++ t)).drop (formB qm c).length = formsL qm r ++ t := by simp
    rw [hxy] at hr hd ⊢
    simp only [List.cons_append] at hr hd ⊢
    simp only [unqF]
    rw [if_neg hx34, hr]
    simp only [ne_eq, not_true_eq_false, ↓reduceIte, Int.toNat_natCast]
    rw [hd, show UInt8.ofNat c.toNat = c by simp, ← hxy, ih, List.append_assoc, Nat.add_assoc]
    rfl
end Go.Proofs.Ytoogopcaieodoaa
