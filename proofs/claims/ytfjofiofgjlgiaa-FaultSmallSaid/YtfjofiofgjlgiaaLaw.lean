/-
  The walk over FaultRuns. No condition.
-/
import Derived.Test.YtfjofiofgjlgiaaRuns
import Derived.Test.YtfjofiofgjlgiaaN
import Derived.Deep.Slices
import Derived.Deep.Fields
import Derived.ChangeSame
import Derived.ProofKit
import Derived.OpenShut
namespace Go.Proofs.Ytfjofiofgjlgiaa
open Go.RowKit
attribute [local go_sem] onto_cell onto_frozen
theorem runs_any (f : Int) (a : Option Addr) (n cap : Nat) (xss : List (List Step3)) (w : World) (hW : Rws w a n xss) (hn : n ≤ 12) (hall : ∀ i, (xss.getD i []).length ≤ 12) :
    Calls Try.prog 35 #[.int .i64 f, .slice a n cap] w fun e w' => e = .returned (.bool true) ∧ Keeps Non w w' := by
  by_cases h : f < 0 ∨ 1048576 < f
  · exact runs_bad f _ w h
  · exact runs_ok f a n cap xss w hW hn hall (by omega) (by omega)
set_option maxHeartbeats 4000000 in
theorem law_runs (f : Int) (a : Option Addr) (n cap : Nat) (xss : List (List Step3)) (w : World) (hW : Rws w a n xss) (hr : n ≤ 9223372036854775807) (hb : ∀ i, (xss.getD i []).length ≤ 9223372036854775807) :
    Calls Try.prog 9 #[.int .i64 f, .slice a n cap] w fun e w' => e = .returned (.bool true) ∧ Keeps Non w w' := by
  have HW := hide hW
  have HB := hide hb
  clear hW hb
  by_cases hn : n ≤ 12
  · have g1 : ¬ (12 : Int) < (n : Int) := by omega
    go_enter Try.func9, Try.ntmps9
    go_wp2_with fail
    go_loop [13] (fun i => ∃ j : Nat, j ≤ n ∧ i = .int .i64 j ∧ Hid (∀ q, q < j → (xss.getD q []).length ≤ 12)) (fun i => n - (intOf i).toNat)
    case atStart => exact ⟨0, by omega, rfl, fun q hq => by omega⟩
    case round =>
      obtain ⟨j, hj, rfl, hQ⟩ := hrel
      by_cases hlt : j < n
      · obtain ⟨b, off, rfl, hb, hcl⟩ := HW.out.cell.resolve_left (by omega)
        obtain ⟨ai, ci, cc, -⟩ := hcl j hlt
        have hlb := HB.out j
        obtain ⟨m, hm⟩ : ∃ m, (xss.getD j []).length = m := ⟨_, rfl⟩
        rw [hm] at cc hlb
        have HMm := hide hm
        have y0 : (0 : Int) ≤ (j : Int) := by omega
        have y1 : (j : Int) < (n : Int) := by omega
        clear hcl hm
        by_cases h12 : m ≤ 12
        · go_wp2_with fail
          go_round
          case rel => exact ⟨j + 1, by omega, by go_num, fun q hq => by
            rcases Nat.lt_succ_iff_lt_or_eq.1 hq with h | rfl
            · exact hQ.out q h
            · rw [HMm.out]; exact h12⟩
          case measure => simp [intOf]; omega
        · have h13 : (12 : Int) < (m : Int) := by omega
          go_wp2_with (go_at_call 18; refine (awake_any _).mono ?_; rintro e w' ⟨rfl, hk⟩)
          go_ret
          exact ⟨rfl, by assumption⟩
      · have hall : ∀ i, (xss.getD i []).length ≤ 12 := by
          intro i
          by_cases hi : i < n
          · exact hQ.out i (by omega)
          · have := HW.out.len
            rw [List.getD_eq_getElem?_getD, List.getElem?_eq_none (by omega)]
            simp
        have HAl := hide hall
        clear hall
        go_wp2_with fail
        refine (runs_any f a n cap xss _ HW.out hn HAl.out).mono ?_
        rintro e w1 ⟨rfl, hk⟩
        have hK := hide hk
        clear hk
        go_wp2_with (go_at_call 18; refine (awake_any _).mono ?_; rintro e w' ⟨rfl, hk⟩)
        go_ret
        exact ⟨rfl, hK.out.then (by assumption)⟩
  · have g1 : (12 : Int) < (n : Int) := by omega
    go_enter Try.func9, Try.ntmps9
    go_wp2_with (go_at_call 18; refine (awake_any _).mono ?_; rintro e w' ⟨rfl, hk⟩)
    go_ret
    exact ⟨rfl, by assumption⟩
end Go.Proofs.Ytfjofiofgjlgiaa
