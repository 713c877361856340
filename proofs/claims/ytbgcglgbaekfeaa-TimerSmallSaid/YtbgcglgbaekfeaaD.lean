/-
  Walks over layer 34: First, Only, Go, Rounds. No condition.
-/
import Derived.Test.YtbgcglgbaekfeaaC
namespace Go.Proofs.Ytbgcglgbaekfeaa
open Go.RowKit
attribute [local go_sem] onto_cell onto_frozen
theorem least_nil : least [] = .agg #[.int .i64 (-1), .int .i64 0] := rfl
theorem least_some {xs : List Int} (h : xs ≠ []) : least xs = .agg #[.int .i64 (ofI xs), .int .i64 (ofT xs)] := by simp [least, h]
set_option maxHeartbeats 1000000 in
theorem first_bad (a : Option Addr) (n cap : Nat) (xs : List Int) (w : World) (h : Ints w a n xs) (hc : (chk xs != 0) = true) :
    Calls Try.prog 12 #[.slice a n cap] w fun e w' => e = .returned (.tuple #[.int .i64 0, .bool false, .int .i64 (chk xs)]) ∧ Keeps Non w w' := by
  go_enter Try.func12, Try.ntmps12
  go_wp2_with (go_at_call 29; refine (check_any _ _ _ xs _ h).mono ?_; rintro e w' ⟨rfl, rfl⟩)
  go_ret3
  exact ⟨rfl, Keeps.refl _ _⟩
set_option maxHeartbeats 1000000 in
theorem first_ok (a : Option Addr) (n cap : Nat) (xs : List Int) (w : World) (h : Ints w a n xs) (hc : (chk xs != 0) = false) :
    Calls Try.prog 12 #[.slice a n cap] w fun e w' => e = .returned (.tuple #[.int .i64 (if xs = [] then 0 else (ofI xs : Int)), .bool (decide (xs ≠ [])), .int .i64 0]) ∧ Keeps Non w w' := by
  have HO := hide (fun w' (k : Keeps Non w w') => of_any a n cap xs w' (h.non k))
  by_cases hx : xs = []
  · subst hx
    rw [least_nil] at HO
    go_enter Try.func12, Try.ntmps12
    go_wp2_with (first | (go_at_call 29; refine (check_any _ _ _ [] _ h).mono ?_; rintro e w' ⟨rfl, rfl⟩) | (go_at_call 32; refine (HO.out _ (Keeps.refl _ _)).mono ?_; rintro e w1 ⟨rfl, hk1⟩))
    refine wp_region_onto (by kernel_rfl) (by kernel_rfl) ?_
    repeat (go_big_quiet_step (first | (go_at_call 33; exact onto_call (there_any _ _ _))))
    refine wpQuiet_nil ?_
    rintro _ ⟨u, rfl⟩
    have K := (hk1.alloc (.cells #[.int .i64 (-1), .int .i64 0] 48)).then (onto_keeps _ u)
    go_wp2
    go_ret3
    exact ⟨by simp, K⟩
  · rw [least_some hx] at HO
    obtain ⟨t, ht⟩ : ∃ t, ofT xs = t := ⟨_, rfl⟩
    obtain ⟨i, hi⟩ : ∃ t, ofI xs = t := ⟨_, rfl⟩
    have e1 : (if xs = [] then 0 else (ofI xs : Int)) = (i : Int) := by rw [if_neg hx, hi]
    have e2 : decide (xs ≠ []) = true := by simpa using hx
    rw [e1, e2]
    rw [hi, ht] at HO
    have z : (0 : Int) ≤ (i : Int) := by omega
    clear hi ht e1 e2 hx
    go_enter Try.func12, Try.ntmps12
    go_wp2_with (first | (go_at_call 29; refine (check_any _ _ _ xs _ h).mono ?_; rintro e w' ⟨rfl, rfl⟩) | (go_at_call 32; refine (HO.out _ (Keeps.refl _ _)).mono ?_; rintro e w1 ⟨rfl, hk1⟩))
    refine wp_region_onto (by kernel_rfl) (by kernel_rfl) ?_
    repeat (go_big_quiet_step (first | (go_at_call 33; exact onto_call (there_any _ _ _))))
    refine wpQuiet_nil ?_
    rintro _ ⟨u, rfl⟩
    have K := (hk1.alloc (.cells #[.int .i64 i, .int .i64 t] 48)).then (onto_keeps _ u)
    go_wp2
    go_ret3
    exact ⟨by simp, K⟩
end Go.Proofs.Ytbgcglgbaekfeaa
