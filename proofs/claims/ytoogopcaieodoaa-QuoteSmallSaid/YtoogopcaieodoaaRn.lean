/-
  The reference's forms, joined; what its search finds: the plain law. No condition.
-/
import Derived.Test.YtoogopcaieodoaaRh
import Derived.Test.YtoogopcaieodoaaRi
import Derived.Test.YtoogopcaieodoaaRj
import Derived.Test.YtoogopcaieodoaaRk
import Derived.Test.YtoogopcaieodoaaRl
import Derived.Test.YtoogopcaieodoaaRm
namespace Go.Proofs.Ytoogopcaieodoaa
open Go.RowKit Go.Shelf
theorem forms_l (m : Mk) (u : UInt8) (c : Int) (hu : (u.toNat : Int) = c) (w : World) :
    Calls Try.prog 44 #[.int .u8 c, .agg (mkA m)] w fun e w' => RetS w w' e (fm m u) := by
  have hb := u.toNat_lt
  by_cases hl : c < 32
  · cases hm : isMk m c with
    | true => have := (isMk_letter m c hm).1; omega
    | false => exact forms_low m u c hu w (by omega) hl (by rw [beq_eq_false_iff_ne]; omega) (by simp; omega) hm
  by_cases hh : 126 < c
  · cases hm : isMk m c with
    | true => have := (isMk_letter m c hm).2.1; omega
    | false => exact forms_high m u c hu w hh (by omega) (by rw [beq_eq_false_iff_ne]; omega) (by simp; omega) hm
  by_cases h92 : c = 92
  · cases hm : isMk m c with
    | true => exact forms_slash_yes m u c hu w (by omega) (by omega) (by simpa using h92) (by simpa using h92) hm
    | false => exact forms_slash_no m u c hu w (by omega) (by omega) (by simpa using h92) (by simpa using h92) hm
  · cases hm : isMk m c with
    | true => exact forms_mark m u c hu w (by omega) (by omega) (by simpa using h92) (by simpa using h92) hm
    | false => exact forms_plain m u c hu w (by omega) (by omega) (by simpa using h92) (by simpa using h92) hm
theorem mark_form {m : Mk} {c : UInt8} (h : c = 92 ∨ isMk m (c.toNat : Int) = true) : formB m c = [92, c] := by
  have hr : 32 ≤ c.toNat ∧ c.toNat ≤ 126 := by
    rcases h with rfl | h
    · decide
    · have := isMk_letter m _ h
      omega
  unfold formB
  rw [if_neg (by rintro rfl; revert hr; decide), if_neg (by rintro rfl; revert hr; decide), if_neg (by rintro rfl; revert hr; decide), if_neg (by omega), if_pos h]
theorem plain_form {m : Mk} {c : UInt8} (h : ¬ (c = 92 ∨ isMk m (c.toNat : Int) = true)) (h1 : 32 ≤ c.toNat ∧ c.toNat ≤ 126) : formB m c = [c] := by
  unfold formB
  rw [if_neg (by rintro rfl; revert h1; decide), if_neg (by rintro rfl; revert h1; decide), if_neg (by rintro rfl; revert h1; decide), if_neg (by omega), if_neg h]
theorem says_fm (m : Mk) (c : UInt8) (x : List UInt8) (h : x ∈ fm m c) : Says m c x := by
  have hb := c.toNat_lt
  have n1 := nib_hx (c.toNat / 16) (by omega)
  have n2 := nib_hx (c.toNat % 16) (Nat.mod_lt _ (by decide))
  have n3 := nib_hX (c.toNat / 16) (by omega)
  have n4 := nib_hX (c.toNat % 16) (Nat.mod_lt _ (by decide))
  unfold fm at h
  rw [List.mem_append, List.mem_append] at h
  rcases h with (h | h) | h
  · unfold r0 at h
    split at h
    · rename_i h1
      rw [List.mem_singleton] at h
      rw [h, ← mark_form h1]
      exact says_form m c
    · rename_i h1
      split at h
      · rename_i h2
        rw [List.mem_singleton] at h
        rw [h, ← plain_form h1 h2]
        exact says_form m c
      · cases h
  · simp only [r1] at h
    split at h
    · rename_i h1
      rw [List.mem_singleton] at h
      subst h1
      rw [h]
      exact says_form m 10
    · split at h
      · rename_i h1
        rw [List.mem_singleton] at h
        subst h1
        rw [h]
        exact says_form m 13
      · split at h
        · rename_i h1
          rw [List.mem_singleton] at h
          subst h1
          rw [h]
          exact says_form m 9
        · cases h
  · simp only [r2, List.take_succ_cons, List.take_zero, List.mem_cons, List.not_mem_nil, or_false] at h
    rcases h with rfl | rfl | rfl | rfl
    · exact says_hex m c _ _ n1 n2
    · exact says_hex m c _ _ n3 n2
    · exact says_hex m c _ _ n1 n4
    · exact says_hex m c _ _ n3 n4
/-- What is found is what is read. -/
theorem found (m : Mk) (c : UInt8) (x s : List UInt8) (hx : x ∈ fm m c) (hp : Lib.hasPrefix s x = true) : rdB m s = ((c.toNat : Int), (x.length : Int), 0) := by
  obtain ⟨t, rfl⟩ := List.isPrefixOf_iff_prefix.1 hp
  exact (says_fm m c x hx).2 t
theorem pre_of {x t : List UInt8} : Lib.hasPrefix (x ++ t) x = true := List.isPrefixOf_iff_prefix.2 ⟨t, rfl⟩
/-- Where nothing is found, nothing can be read. -/
theorem not_found (m : Mk) (s : List UInt8) (h : ∀ v ∈ mayOf s, ∀ u : UInt8, (u.toNat : Int) = v → ∀ x ∈ fm m u, Lib.hasPrefix s x = false) : rdB m s = (0, 0, 20) := by
  rcases rdB_n m s with ⟨h0, h1, h2⟩ | ⟨h0, h1, h2⟩
  · exfalso
    match s, h, h0 with
    | [], _, h0 => simp [rdB] at h0
    | c :: r, h, h0 =>
      by_cases hc : (c.toNat : Int) = 92
      · have hc' : c = 92 := (u8_int c 92).1 hc
        subst hc'
        match r, h, h0 with
        | [], _, h0 => simp [rdB] at h0
        | d :: r, h, h0 =>
          have e : rdB m (92 :: d :: r) = rdE m (d.toNat : Int) r := by simp only [rdB, hc, ↓reduceIte]
          rw [e] at h0
          have hd : ∀ v ∈ ([9, 10, 13] ++ mayE (d :: r) : List Int), v ∈ mayOf (92 :: d :: r) := by
            intro v hv
            simp only [mayOf]
            rw [if_pos hc]
            exact hv
          have hdm : (d.toNat : Int) ∈ mayE (d :: r) := by
            match r with
            | [] => simp [mayE]
            | [_] => simp [mayE]
            | _ :: _ :: _ => simp [mayE]
          unfold rdE at h0
          split at h0
          · rename_i h120
            have hd120 : d = 120 := (u8_int d 120).1 h120
            subst hd120
            match r, h, h0, hd with
            | [], _, h0, _ => simp at h0
            | [_], _, h0, _ => simp at h0
            | x :: y :: r, h, h0, hd =>
              simp only [] at h0
              split at h0
              · rename_i hxy
                obtain ⟨hx1, hy1⟩ := hxy
                have xb := nib_nonneg (x.toNat : Int)
                have yb := nib_nonneg (y.toNat : Int)
                have hv : (16 * nib (x.toNat : Int) + nib (y.toNat : Int)) ∈ mayOf (92 :: 120 :: x :: y :: r) := by
                  apply hd
                  simp only [mayE, dg, if_pos hx1, if_pos hy1]
                  simp
                obtain ⟨u, hu⟩ : ∃ u : UInt8, (u.toNat : Int) = 16 * nib (x.toNat : Int) + nib (y.toNat : Int) := ⟨UInt8.ofNat (16 * nib (x.toNat : Int) + nib (y.toNat : Int)).toNat, by
                  rw [UInt8.toNat_ofNat']
                  omega⟩
                have e1 : (nib (x.toNat : Int)).toNat = u.toNat / 16 := by omega
                have e2 : (nib (y.toNat : Int)).toNat = u.toNat % 16 := by omega
                have X := nib_back (x.toNat : Int) (u8_bd x).1 (u8_bd x).2 hx1
                have Y := nib_back (y.toNat : Int) (u8_bd y).1 (u8_bd y).2 hy1
                rw [e1, u8_int, u8_int] at X
                rw [e2, u8_int, u8_int] at Y
                have hmem : [92, 120, x, y] ∈ fm m u := by
                  unfold fm
                  rw [List.mem_append]
                  right
                  simp only [r2, List.take_succ_cons, List.take_zero, List.mem_cons, List.not_mem_nil, or_false]
                  rcases X with X | X <;> rcases Y with Y | Y <;> rw [X, Y] <;> simp
                have := h _ hv u hu _ hmem
                rw [show (92 :: 120 :: x :: y :: r : List UInt8) = [92, 120, x, y] ++ r from rfl, pre_of] at this
                cases this
              · simp at h0
          · split at h0
            · rename_i hm
              have hm' : d = 92 ∨ isMk m (d.toNat : Int) = true := by
                rcases hm with hm | hm
                · exact .inl ((u8_int d 92).1 hm)
                · exact .inr hm
              have := h _ (hd _ (List.mem_append_right _ hdm)) d rfl [92, d] (by
                unfold fm r0
                rw [if_pos hm']
                simp)
              rw [show (92 :: d :: r : List UInt8) = [92, d] ++ r from rfl, pre_of] at this
              cases this
            · split at h0
              · rename_i hdd
                have hd' : d = 110 := (u8_int d 110).1 hdd
                subst hd'
                have := h 10 (hd _ (by simp)) 10 rfl [92, 110] (by simp [fm, r1])
                rw [show (92 :: 110 :: r : List UInt8) = [92, 110] ++ r from rfl, pre_of] at this
                cases this
              · split at h0
                · rename_i hdd
                  have hd' : d = 114 := (u8_int d 114).1 hdd
                  subst hd'
                  have := h 13 (hd _ (by simp)) 13 rfl [92, 114] (by simp [fm, r1])
                  rw [show (92 :: 114 :: r : List UInt8) = [92, 114] ++ r from rfl, pre_of] at this
                  cases this
                · split at h0
                  · rename_i hdd
                    have hd' : d = 116 := (u8_int d 116).1 hdd
                    subst hd'
                    have := h 9 (hd _ (by simp)) 9 rfl [92, 116] (by simp [fm, r1])
                    rw [show (92 :: 116 :: r : List UInt8) = [92, 116] ++ r from rfl, pre_of] at this
                    cases this
                  · simp at h0
      · simp only [rdB] at h0
        rw [if_neg hc] at h0
        split at h0
        · rename_i hp
          have hn : ¬ (c = 92 ∨ isMk m (c.toNat : Int) = true) := by
            rintro (h | h)
            · exact hc (by rw [h]; rfl)
            · rw [hp.2.2] at h
              cases h
          have := h (c.toNat : Int) (by simp only [mayOf]; rw [if_neg hc]; simp) c rfl [c] (by
            unfold fm r0
            rw [if_neg hn, if_pos ⟨by omega, by omega⟩]
            simp)
          rw [show (c :: r : List UInt8) = [c] ++ r from rfl, pre_of] at this
          cases this
        · simp at h0
  · exact Prod.ext h2 (Prod.ext h1 h0)
end Go.Proofs.Ytoogopcaieodoaa
