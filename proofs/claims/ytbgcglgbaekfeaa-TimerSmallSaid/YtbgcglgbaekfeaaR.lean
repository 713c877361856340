/-
  Walks over layer 34's reference: Go, Rounds. No condition.
-/
import Derived.Test.YtbgcglgbaekfeaaQ
namespace Go.Proofs.Ytbgcglgbaekfeaa
open Go.RowKit
attribute [local go_sem] onto_cell onto_frozen
theorem rcheck_ok (a : Option Addr) (n cap : Nat) (xs : List Int) (w : World) (h : Ints w a n xs) (hc : chk xs = 0) :
    Calls Try.prog 26 #[.slice a n cap] w fun e w' => e = .returned (.int .i64 0) ∧ w = w' := by
  have := rcheck_any a n cap xs w h
  rwa [hc] at this
theorem rfirst_nil (a : Option Addr) (n cap : Nat) (xs : List Int) (w : World) (h : Ints w a n xs) (hc0 : chk xs = 0) (hx : xs = []) :
    Calls Try.prog 31 #[.slice a n cap] w fun e w' => e = .returned (.int .i64 (-1)) ∧ w = w' := by
  have := rfirst_any a n cap xs w h hc0
  rwa [show lI xs = -1 by simp [lI, hx]] at this
theorem rfirst_some (a : Option Addr) (n cap : Nat) (xs : List Int) (w : World) (h : Ints w a n xs) (hc0 : chk xs = 0) (hx : xs ≠ []) :
    Calls Try.prog 31 #[.slice a n cap] w fun e w' => e = .returned (.int .i64 (ofI xs)) ∧ w = w' := by
  have := rfirst_any a n cap xs w h hc0
  rwa [show lI xs = ofI xs by simp [lI, hx]] at this
theorem goR_bad {xs : List Int} {p q : Int} (hc : chk xs = 0) (h : q < 0 ∨ p < 0 ∨ 1000 ≤ p) : goR xs p q = (0, false, 2) := by
  simp [goR, hc, h]
theorem goR_err {xs : List Int} {p q : Int} (hc : chk xs ≠ 0) : goR xs p q = (0, false, chk xs) := by
  simp [goR, hc]
set_option maxHeartbeats 4000000 in
theorem rgo_any (a : Option Addr) (n cap : Nat) (xs : List Int) (p q : Int) (w : World) (h : Ints w a n xs) :
    Calls Try.prog 27 #[.slice a n cap, .int .i64 p, .int .i64 q] w fun e w' => e = .returned (tupG (goR xs p q)) ∧ w = w' := by
  by_cases hc : chk xs = 0
  · have HC := hide (rcheck_ok a n cap xs w h hc)
    by_cases h1 : q < 0
    · rw [goR_bad hc (.inl h1)]
      clear h hc
      go_enter Try.func27, Try.ntmps27
      go_wp2_with (go_at_call 26; refine HC.out.mono ?_; rintro e w' ⟨rfl, rfl⟩)
      go_ret3
      exact ⟨rfl, rfl⟩
    · by_cases h2 : p < 0
      · rw [goR_bad hc (.inr (.inl h2))]
        clear h hc
        go_enter Try.func27, Try.ntmps27
        go_wp2_with (go_at_call 26; refine HC.out.mono ?_; rintro e w' ⟨rfl, rfl⟩)
        go_ret3
        exact ⟨rfl, rfl⟩
      · by_cases h3 : 999 < p
        · rw [goR_bad hc (.inr (.inr (by omega)))]
          clear h hc
          go_enter Try.func27, Try.ntmps27
          go_wp2_with (go_at_call 26; refine HC.out.mono ?_; rintro e w' ⟨rfl, rfl⟩)
          go_ret3
          exact ⟨rfl, rfl⟩
        · by_cases hx : xs = []
          · have HF := hide (rfirst_nil a n cap xs w h hc hx)
            rw [hx, goR_nil (by omega) (by omega) (by omega)]
            clear h hc hx
            go_enter Try.func27, Try.ntmps27
            go_wp2_with (first | (go_at_call 26; refine HC.out.mono ?_; rintro e w' ⟨rfl, rfl⟩) | (go_at_call 31; refine HF.out.mono ?_; rintro e w' ⟨rfl, rfl⟩))
            try rw [Exit.noGoto_ret]
            go_ret3
            exact ⟨rfl, rfl⟩
          · have HF := hide (rfirst_some a n cap xs w h hc hx)
            have hr := ofI_lt hx
            have hT := ofT_bd hc hx
            have hlen := h.len
            obtain ⟨b, off, rfl, hb, hcl⟩ := h.at (by omega)
            have cr := hcl (ofI xs) (by omega)
            have hTI : xs.getD (ofI xs) 0 = ofT xs := rfl
            rw [hTI] at cr
            have hbig := h.big
            by_cases hov : ofT xs ≤ p
            · rw [goR_over hc hx (by omega) (by omega) (by omega) hov]
              generalize ofT xs = t at *
              generalize ofI xs = r at *
              have z0 : (0 : Int) ≤ (r : Int) := by omega
              have z1 : (r : Int) < (n : Int) := by omega
              have z2 : ¬ (r : Int) < 0 := by omega
              clear h hc hx hcl hTI
              go_enter Try.func27, Try.ntmps27
              go_wp2_with (first | (go_at_call 26; refine HC.out.mono ?_; rintro e w' ⟨rfl, rfl⟩) | (go_at_call 31; refine HF.out.mono ?_; rintro e w' ⟨rfl, rfl⟩))
              try rw [Exit.noGoto_ret]
              go_ret3
              exact ⟨rfl, rfl⟩
            · rw [goR_some hc hx (by omega) (by omega) (by omega) hov]
              generalize ofT xs = t at *
              generalize ofI xs = r at *
              have z0 : (0 : Int) ≤ (r : Int) := by omega
              have z1 : (r : Int) < (n : Int) := by omega
              have z2 : ¬ (r : Int) < 0 := by omega
              obtain ⟨t1, t2⟩ := hT
              have E1 : Hid (∀ k : Int, k < q → p + (k + 1) = t → tupG ((if t - p < q then t - p else q), decide (t - p ≤ q), 0) = .tuple #[.int .i64 (k + 1), .bool true, .int .i64 0]) := by
                intro k hk he
                have e1 : (if t - p < q then t - p else q) = k + 1 := by split <;> omega
                have e2 : decide (t - p ≤ q) = true := by simp; omega
                simp only [tupG, e1, e2]
              have E2 : Hid (q < t - p → tupG ((if t - p < q then t - p else q), decide (t - p ≤ q), 0) = .tuple #[.int .i64 q, .bool false, .int .i64 0]) := by
                intro hk
                have e1 : (if t - p < q then t - p else q) = q := by split <;> omega
                have e2 : decide (t - p ≤ q) = false := by simp; omega
                simp only [tupG, e1, e2]
              generalize tupG ((if t - p < q then t - p else q), decide (t - p ≤ q), 0) = R at *
              clear h hc hx hcl hTI
              go_enter Try.func27, Try.ntmps27
              go_wp2_with (first | (go_at_call 26; refine HC.out.mono ?_; rintro e w' ⟨rfl, rfl⟩) | (go_at_call 31; refine HF.out.mono ?_; rintro e w' ⟨rfl, rfl⟩))
              go_loop [11] (fun i => ∃ k : Int, 0 ≤ k ∧ k ≤ q ∧ k < t - p ∧ i = .int .i64 k) (fun i => q.toNat - (intOf i).toNat)
              case atStart => exact ⟨0, by omega, by omega, by omega, rfl⟩
              case round =>
                obtain ⟨k, hk0, hkq, hkt, rfl⟩ := hrel
                by_cases hlt : k < q
                · by_cases he : p + (k + 1) = t
                  · have HR := hide (E1.out k hlt he)
                    go_wp2
                    try rw [Exit.noGoto_ret]
                    go_ret3
                    exact ⟨by rw [HR.out]; rfl, rfl⟩
                  · go_wp2
                    go_round
                    case rel => exact ⟨k + 1, by omega, by omega, by omega, by go_num⟩
                    case measure => simp [intOf]; omega
                · have hkq2 : k = q := by omega
                  subst hkq2
                  have HR := hide (E2.out hkt)
                  go_wp2
                  try rw [Exit.noGoto_ret]
                  go_ret3
                  exact ⟨by rw [HR.out]; rfl, rfl⟩
  · have HC := hide (rcheck_any a n cap xs w h)
    rw [goR_err hc]
    have hc1 : (chk xs != 0) = true := by simp [hc]
    clear h
    generalize chk xs = c at *
    go_enter Try.func27, Try.ntmps27
    go_wp2_with (go_at_call 26; refine HC.out.mono ?_; rintro e w' ⟨rfl, rfl⟩)
    go_ret3
    exact ⟨rfl, rfl⟩
end Go.Proofs.Ytbgcglgbaekfeaa
