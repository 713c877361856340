/-
  Walks over layer 6: Coarsest and Quotient, where something is wrong. No condition.
-/
import Derived.Test.YtkcbahfmdokalaaQ
namespace Go.Proofs.Ytkcbahfmdokalaa
open Go.RowKit
attribute [local go_sem] onto_cell onto_frozen
set_option linter.unusedVariables false
theorem quotient_no (a b : Option Addr) (n cap m cap2 : Nat) (p : List Int) (next : List (List Int)) (w : World) (h : Ints w a n p) (h2 : Rows w b m next) (hg : Good p) (x : Int) (he : wrongE p next = x) (hx : x ≠ 0) :
    Calls Try.prog 28 #[.slice a n cap, .slice b m cap2] w fun e w' => e = .returned (.tuple #[.slice none 0 0, .int .i64 x]) ∧ Keeps Non w w' := by
  have HM := hide (stable_no a b n cap m cap2 p next w h h2 hg x he hx)
  clear h h2 hg he
  go_enter Try.func28, Try.ntmps28
  go_wp2_with fail
  refine HM.out.mono ?_
  rintro e w2 ⟨rfl, hk⟩
  go_wp2_with fail
  go_ret2
  exact ⟨rfl, hk⟩
theorem quotient_split (a b : Option Addr) (n cap m cap2 : Nat) (p : List Int) (next : List (List Int)) (w : World) (h : Ints w a n p) (h2 : Rows w b m next) (hg : Good p) (he : wrongE p next = 0) (hst : ¬ refineL p next = p) :
    Calls Try.prog 28 #[.slice a n cap, .slice b m cap2] w fun e w' => e = .returned (.tuple #[.slice none 0 0, .int .i64 62]) ∧ Keeps Non w w' := by
  have HM := stable_yes a b n cap m cap2 p next w h h2 hg he
  rw [decide_eq_false hst] at HM
  have HM2 := hide HM
  clear h h2 hg he hst HM
  go_enter Try.func28, Try.ntmps28
  go_wp2_with fail
  refine HM2.out.mono ?_
  rintro e w2 ⟨rfl, hk⟩
  go_wp2_with fail
  go_ret2
  exact ⟨rfl, hk⟩
theorem coarsest_no (a b : Option Addr) (n cap m cap2 : Nat) (p : List Int) (next : List (List Int)) (w : World) (h : Ints w a n p) (h2 : Rows w b m next) (hg : Good p) (x : Int) (he : wrongE p next = x) (hx : x ≠ 0) :
    Calls Try.prog 27 #[.slice a n cap, .slice b m cap2] w fun e w' => e = .returned (.tuple #[.slice none 0 0, .int .i64 0, .int .i64 x]) ∧ Keeps Non w w' := by
  have HW := wrong_l a b n cap m cap2 p next w h h2 hg
  rw [he] at HW
  have HW2 := hide HW
  clear HW h h2 hg he
  go_enter Try.func27, Try.ntmps27
  go_wp2_with fail
  go_step3
  go_wp2_with fail
  refine HW2.out.mono ?_
  rintro e w2 ⟨rfl, hk⟩
  go_wp2_with fail
  try rw [Exit.noGoto_ret]
  exact bodyPost_ret (v := .tuple #[.slice none 0 0, .int .i64 0, .int .i64 x]) (by simp [results, Try.results27, go_sem]) rfl ⟨rfl, hk⟩
end Go.Proofs.Ytkcbahfmdokalaa
