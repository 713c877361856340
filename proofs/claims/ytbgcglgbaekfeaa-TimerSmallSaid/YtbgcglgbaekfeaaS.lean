/-
  Walks over layer 34's reference: Rounds. No condition.
-/
import Derived.Test.YtbgcglgbaekfeaaR
namespace Go.Proofs.Ytbgcglgbaekfeaa
open Go.RowKit
attribute [local go_sem] onto_cell onto_frozen
set_option maxHeartbeats 4000000 in
theorem rrounds_any (a : Option Addr) (n cap : Nat) (xs : List Int) (q : Int) (w : World) (h : Ints w a n xs) (hq : q ≤ 9223372036854775807) :
    Calls Try.prog 28 #[.slice a n cap, .int .i64 q] w fun e w' => e = .returned (tupR (roR xs q)) ∧ Keeps Non w w' := by
  by_cases hc : chk xs = 0
  · have HC := hide (rcheck_ok a n cap xs w h hc)
    by_cases h1 : q < 0
    · have : roR xs q = (0, 0, 2) := by simp [roR, hc, h1]
      rw [this]
      clear h hc this hq
      go_enter Try.func28, Try.ntmps28
      go_wp2_with (go_at_call 26; refine HC.out.mono ?_; rintro e w' ⟨rfl, rfl⟩)
      go_ret3
      exact ⟨rfl, Keeps.refl _ _⟩
    · by_cases hx : xs = []
      · have HF := hide (rfirst_nil a n cap xs w h hc hx)
        rw [ro_nil hc hx (by omega)]
        clear h hc hx hq
        go_enter Try.func28, Try.ntmps28
        go_wp2_with (first | (go_at_call 26; refine HC.out.mono ?_; rintro e w' ⟨rfl, rfl⟩) | (go_at_call 31; refine HF.out.mono ?_; rintro e w' ⟨rfl, rfl⟩))
        go_ret3
        exact ⟨rfl, Keeps.refl _ _⟩
      · have HF := hide (rfirst_some a n cap xs w h hc hx)
        have hr := ofI_lt hx
        have hT := ofT_bd hc hx
        have hlen := h.len
        obtain ⟨b, off, rfl, hb, hcl⟩ := h.at (by omega)
        have cr := hcl (ofI xs) (by omega)
        have hTI : xs.getD (ofI xs) 0 = ofT xs := rfl
        rw [hTI] at cr
        have hbig := h.big
        rw [ro_some hc hx (by omega)]
        generalize ofT xs = t at *
        generalize ofI xs = r at *
        have z0 : (0 : Int) ≤ (r : Int) := by omega
        have z1 : (r : Int) < (n : Int) := by omega
        have z2 : ¬ (r : Int) < 0 := by omega
        obtain ⟨t1, t2⟩ := hT
        have m3 : Hid (q - q / t * t = q % t) := by
          have := Int.mul_ediv_add_emod q t
          rw [Int.mul_comm] at this
          unfold Hid
          omega
        have m0 : 0 ≤ q / t * t := Int.mul_nonneg (Int.ediv_nonneg (by omega) (by omega)) (by omega)
        have m1 : q / t * t ≤ q := Int.ediv_mul_le q (by omega)
        clear h hc hx hcl hTI
        go_enter Try.func28, Try.ntmps28
        go_wp2_with (first | (go_at_call 26; refine HC.out.mono ?_; rintro e w' ⟨rfl, rfl⟩) | (go_at_call 31; refine HF.out.mono ?_; rintro e w' ⟨rfl, rfl⟩))
        refine wp_region_onto (by kernel_rfl) (by kernel_rfl) ?_
        repeat (go_big_quiet_step (fail))
        refine wpQuiet_nil ?_
        rintro _ ⟨u, rfl⟩
        go_wp2
        go_ret3
        refine ⟨?_, onto_keeps _ u⟩
        show Ending.returned (.tuple #[.int .i64 (q / t), .int .i64 (q - q / t * t), .int .i64 0]) = _
        rw [m3.out]
        rfl
  · have HC := hide (rcheck_any a n cap xs w h)
    have : roR xs q = (0, 0, chk xs) := by simp [roR, hc]
    rw [this]
    have hc1 : (chk xs != 0) = true := by simp [hc]
    clear h this hq
    generalize chk xs = c at *
    go_enter Try.func28, Try.ntmps28
    go_wp2_with (go_at_call 26; refine HC.out.mono ?_; rintro e w' ⟨rfl, rfl⟩)
    go_ret3
    exact ⟨rfl, Keeps.refl _ _⟩
end Go.Proofs.Ytbgcglgbaekfeaa
