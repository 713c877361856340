/-
  Plain: how far each point is, by rounds. No condition.
-/
import Derived.Test.YthpdflpkkiabhaaPw
namespace Go.Proofs.Ythpdflpkkiabhaa
set_option linter.unusedVariables false
structure WI (next : List (List Int)) (n : Nat) (s : Int) (W : List Int) (far : Nat) : Prop where
  len : W.length = n
  low : ∀ y, y < n → -1 ≤ W.getD y 0
  high : ∀ y, y < n → W.getD y 0 ≤ far
  wk : ∀ y, y < n → 0 ≤ W.getD y 0 → Wk (succL next) s (W.getD y 0).toNat y
  near : ∀ k, k ≤ far → ∀ y, y < n → Wk (succL next) s k y → 0 ≤ W.getD y 0 ∧ W.getD y 0 ≤ k
structure WM (next : List (List Int)) (n : Nat) (s : Int) (W : List Int) (far i q : Nat) : Prop where
  len : W.length = n
  low : ∀ y, y < n → -1 ≤ W.getD y 0
  high : ∀ y, y < n → W.getD y 0 ≤ (far : Int) + 1
  wk : ∀ y, y < n → 0 ≤ W.getD y 0 → Wk (succL next) s (W.getD y 0).toNat y
  near : ∀ k, k ≤ far → ∀ y, y < n → Wk (succL next) s k y → 0 ≤ W.getD y 0 ∧ W.getD y 0 ≤ k
  done : ∀ x, x < i → W.getD x 0 = far → ∀ t ∈ next.getD x [], 0 ≤ W.getD t.toNat 0
  part : ∀ t ∈ (next.getD i []).take q, 0 ≤ W.getD t.toNat 0
theorem WI.start {next : List (List Int)} {n : Nat} {s : Nat} {W : List Int} (hl : W.length = n) (hs : s < n) (hW : ∀ y, y < n → W.getD y 0 = -1) : WI next n s (W.set s 0) 0 := by
  have e : ∀ y, y < n → (W.set s 0).getD y 0 = if s = y then 0 else -1 := fun y hy => by
    rw [getD_set (by omega)]
    split
    · rfl
    · exact hW y hy
  refine ⟨by simp [hl], fun y hy => ?_, fun y hy => ?_, fun y hy h0 => ?_, fun k hk y hy h => ?_⟩
  · rw [e y hy]; split <;> omega
  · rw [e y hy]; split <;> omega
  · rw [e y hy] at h0 ⊢
    split at h0
    · rename_i h
      subst h
      rw [if_pos rfl]
      exact .nil
    · omega
  · obtain rfl : k = 0 := by omega
    cases h
    rw [e s hs, if_pos rfl]
    omega
theorem WI.mid {next : List (List Int)} {n : Nat} {s : Int} {W : List Int} {far : Nat} (h : WI next n s W far) : WM next n s W far 0 0 :=
  ⟨h.len, h.low, fun y hy => by have := h.high y hy; omega, h.wk, h.near, fun x hx => by omega, fun t ht => by simp at ht⟩
theorem WM.skip {next : List (List Int)} {n : Nat} {s : Int} {W : List Int} {far i : Nat} (h : WM next n s W far i 0) (hi : W.getD i 0 ≠ far) : WM next n s W far (i + 1) 0 :=
  ⟨h.len, h.low, h.high, h.wk, h.near, fun x hx he => by
    by_cases hxi : x = i
    · subst hxi; exact absurd he hi
    · exact h.done x (by omega) he, fun t ht => by simp at ht⟩
theorem WM.next {next : List (List Int)} {n : Nat} {s : Int} {W : List Int} {far i q : Nat} (h : WM next n s W far i q) (hq : (next.getD i []).length ≤ q) : WM next n s W far (i + 1) 0 :=
  ⟨h.len, h.low, h.high, h.wk, h.near, fun x hx he => by
    by_cases hxi : x = i
    · subst hxi
      have := h.part
      rwa [List.take_of_length_le hq] at this
    · exact h.done x (by omega) he, fun t ht => by simp at ht⟩
theorem mem_take_succ {l : List Int} {q : Nat} (hq : q < l.length) {t : Int} (h : t ∈ l.take (q + 1)) : t ∈ l.take q ∨ t = l.getD q 0 := by
  rw [List.take_succ_eq_append_getElem hq, List.mem_append, List.mem_singleton] at h
  rw [getD_num hq]
  exact h
theorem WM.have {next : List (List Int)} {n : Nat} {s : Int} {W : List Int} {far i q : Nat} (h : WM next n s W far i q) (hq : q < (next.getD i []).length) (h0 : 0 ≤ W.getD ((next.getD i []).getD q 0).toNat 0) : WM next n s W far i (q + 1) :=
  ⟨h.len, h.low, h.high, h.wk, h.near, h.done, fun t ht => by
    rcases mem_take_succ hq ht with h1 | h1
    · exact h.part t h1
    · rw [h1]; exact h0⟩
theorem WM.set {next : List (List Int)} {n : Nat} {s : Int} {W : List Int} {far i q t : Nat} (h : WM next n s W far i q) (hi : i < n) (hq : q < (next.getD i []).length) (ht : (next.getD i []).getD q 0 = (t : Int)) (htn : t < n) (h0 : W.getD t 0 < 0) (hf : W.getD i 0 = far) :
    WM next n s (W.set t ((far : Int) + 1)) far i (q + 1) ∧ (W.set t ((far : Int) + 1)).getD i 0 = far := by
  have e : ∀ y, (W.set t ((far : Int) + 1)).getD y 0 = if t = y then (far : Int) + 1 else W.getD y 0 := fun y => getD_set (by rw [h.len]; exact htn)
  have hti : t ≠ i := by rintro rfl; omega
  have up : ∀ y, 0 ≤ W.getD y 0 → 0 ≤ (W.set t ((far : Int) + 1)).getD y 0 := fun y hy => by
    rw [e]; split <;> omega
  have hmem : (t : Int) ∈ succL next (i : Int) := by
    unfold succL
    rw [Int.toNat_natCast, ← ht, getD_num hq]
    exact List.getElem_mem _
  refine ⟨⟨by simp [h.len], fun y hy => ?_, fun y hy => ?_, fun y hy hy0 => ?_, fun k hk y hy hw => ?_, fun x hx hxe u hu => ?_, fun u hu => ?_⟩, by rw [e, if_neg hti]; exact hf⟩
  · rw [e]; have := h.low y hy; split <;> omega
  · rw [e]; have := h.high y hy; split <;> omega
  · rw [e] at hy0 ⊢
    split
    · rename_i hty
      subst hty
      have h1 := h.wk i hi (by omega)
      rw [hf] at h1
      rw [show ((far : Int) + 1).toNat = far + 1 by omega]
      rw [show ((far : Int)).toNat = far by omega] at h1
      exact .step h1 hmem
    · rename_i hty
      rw [if_neg hty] at hy0
      exact h.wk y hy hy0
  · have := h.near k hk y hy hw
    rw [e, if_neg (by rintro rfl; omega)]
    exact this
  · rw [e] at hxe
    split at hxe
    · omega
    · exact up _ (h.done x hx hxe u hu)
  · rcases mem_take_succ hq hu with h1 | h1
    · exact up _ (h.part u h1)
    · rw [h1, ht, Int.toNat_natCast, e, if_pos rfl]
      omega
theorem WM.round {next : List (List Int)} {n : Nat} {s : Int} {W : List Int} {far : Nat} (hsc : ∀ p, 0 ≤ p ∧ p < (n : Int) → ∀ q ∈ succL next p, 0 ≤ q ∧ q < (n : Int)) (hs : 0 ≤ s ∧ s < (n : Int)) (h : WM next n s W far n 0) : WI next n s W (far + 1) := by
  refine ⟨h.len, h.low, fun y hy => by have := h.high y hy; omega, h.wk, fun k hk y hy hw => ?_⟩
  by_cases hk2 : k ≤ far
  · exact h.near k hk2 y hy hw
  · obtain rfl : k = far + 1 := by omega
    generalize hyy : (y : Int) = yy at hw
    cases hw with
    | @step k b c h1 h2 =>
      have hb := h1.rng hsc hs
      obtain ⟨bi, rfl⟩ := Int.eq_ofNat_of_zero_le hb.1
      have h3 := h.near far (Nat.le_refl _) bi (by omega) h1
      have h2' : (y : Int) ∈ next.getD bi [] := by
        unfold succL at h2
        rw [Int.toNat_natCast, ← hyy] at h2
        exact h2
      have hh := h.high y hy
      by_cases he : W.getD bi 0 = far
      · have := h.done bi (by omega) he y h2'
        rw [Int.toNat_natCast] at this
        omega
      · have h4 := h.wk bi (by omega) h3.1
        have h5 := h.near ((W.getD bi 0).toNat + 1) (by omega) y hy (by rw [hyy]; exact .step h4 h2)
        omega
theorem WI.ways {next : List (List Int)} {s : Int} {W : List Int} (hc : checkB next = true) (hs : 0 ≤ s ∧ s < (next.length : Int)) (h : WI next next.length s W next.length) : W = waysL next next.length s := by
  have hl : (waysL next next.length s).length = next.length := goW_length _ _
  refine List.ext_getElem (by rw [h.len, hl]) fun y h1 h2 => ?_
  have hy : y < next.length := by rw [← h.len]; exact h1
  have f := ways_far hc hs y hy
  have hbd : (waysL next next.length s).getD y 0 ≤ next.length := by
    have h3 := goW_bd next.length (foundL (succL next) (-1) next.length [s]) y
    have h4 := found_len (-1) hc (l := [s]) (fun x hx => by rw [List.mem_singleton.1 hx]; exact hs)
    unfold waysL
    omega
  rw [← getD_num h1, ← getD_num h2]
  by_cases h0 : 0 ≤ (waysL next next.length s).getD y 0
  · have h3 := h.near _ (by omega) y hy (f.wk h0)
    have h4 := f.least _ (h.wk y hy h3.1)
    omega
  · have h3 : ¬ 0 ≤ W.getD y 0 := fun h3 => by
      have := f.least _ (h.wk y hy h3)
      omega
    have := h.low y hy
    have := f.low
    omega
end Go.Proofs.Ythpdflpkkiabhaa
