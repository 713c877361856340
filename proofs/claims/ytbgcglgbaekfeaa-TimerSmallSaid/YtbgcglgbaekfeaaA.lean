/-
  Walks over layer 34: Check. No condition.
-/
import Derived.Test.YtbgcglgbaekfeaaRows
import Derived.Test.YtbgcglgbaekfeaaInts
import Derived.Test.YtbgcglgbaekfeaaOnto
import Derived.Laws.Pointers
import Derived.LoopTactic
namespace Go.Proofs.Ytbgcglgbaekfeaa
open Go.RowKit
attribute [local go_sem] onto_cell onto_frozen
theorem getD_at {xs : List Int} {i : Nat} (h : i < xs.length) : xs.getD i 0 = xs[i] := by simp [List.getD_eq_getElem?_getD, h]
/-- One timeout is right. -/
def okB (x : Int) : Bool := decide (1 ≤ x ∧ x ≤ 1000)
/-- What is wrong with timeouts. -/
def chk (xs : List Int) : Int := if 12 < xs.length then 5 else if xs.all okB then 0 else 340
theorem chk_many {xs : List Int} (h : 12 < xs.length) : chk xs = 5 := by simp [chk, h]
theorem chk_good {xs : List Int} (h : ¬ 12 < xs.length) (h2 : ∀ i, i < xs.length → 1 ≤ xs.getD i 0 ∧ xs.getD i 0 ≤ 1000) : chk xs = 0 := by
  have : xs.all okB = true := by
    rw [List.all_eq_true]
    intro x hx
    obtain ⟨i, hi, rfl⟩ := List.getElem_of_mem hx
    have := h2 i hi
    rw [getD_at hi] at this
    simpa [okB] using this
  simp [chk, h, this]
theorem chk_bad {xs : List Int} (h : ¬ 12 < xs.length) (k : Nat) (hk : k < xs.length) (h2 : ¬ (1 ≤ xs.getD k 0 ∧ xs.getD k 0 ≤ 1000)) : chk xs = 340 := by
  have : xs.all okB = false := by
    rw [List.all_eq_false]
    refine ⟨xs[k], List.getElem_mem hk, ?_⟩
    rw [getD_at hk] at h2
    simpa [okB] using h2
  simp [chk, h, this]

set_option maxHeartbeats 1000000 in
theorem check_any (a : Option Addr) (n cap : Nat) (xs : List Int) (w : World) (h : Ints w a n xs) :
    Calls Try.prog 29 #[.slice a n cap] w fun e w' => e = .returned (.int .i64 (chk xs)) ∧ w = w' := by
  by_cases h12 : 12 < n
  · have hc : Hid (chk xs = 5) := chk_many (by rw [h.len]; exact h12)
    have h12' : (12 : Int) < (n : Int) := by omega
    clear h h12
    go_enter Try.func29, Try.ntmps29
    go_wp2
    go_step3
    go_wp2
    try rw [Exit.noGoto_ret]
    go_ret
    exact ⟨ret_int hc.out.symm, rfl⟩
  · have h12' : ¬ (12 : Int) < (n : Int) := by omega
    have hlen := hide h.len
    have hbig := h.big
    have hcell := hide h.cell
    clear h
    go_enter Try.func29, Try.ntmps29
    go_wp2
    go_step3
    go_wp2
    go_step3
    go_wp2
    go_loop [11, 3] (fun i e => ∃ k : Nat, k ≤ n ∧ i = .int .i64 k ∧ e = .int .i64 0 ∧ Hid (∀ j, j < k → 1 ≤ xs.getD j 0 ∧ xs.getD j 0 ≤ 1000)) (fun i _ => n - (intOf i).toNat)
    case atStart => exact ⟨0, Nat.zero_le _, rfl, rfl, fun j hj => by omega⟩
    case round =>
      obtain ⟨k, hk, rfl, rfl, hall⟩ := hrel
      by_cases hlt : k < n
      · obtain ⟨x, hx⟩ : ∃ x, xs.getD k 0 = x := ⟨_, rfl⟩
        obtain ⟨b, off, rfl, hb, hc⟩ := hcell.out.resolve_left (by omega)
        have hck := hc k hlt
        rw [hx] at hck
        have HX := hide hx
        clear hx hc
        by_cases hg : 1 ≤ x ∧ x ≤ 1000
        · obtain ⟨hg1, hg2⟩ := hg
          go_wp2
          go_round
          case rel => exact ⟨k + 1, by omega, by go_num, rfl, fun j hj => by
            rcases Nat.lt_succ_iff_lt_or_eq.1 hj with h | rfl
            · exact hall j h
            · rw [HX.out]; exact ⟨hg1, hg2⟩⟩
          case measure => simp [intOf]; omega
        · have H : Hid (chk xs = 340) := chk_bad (by rw [hlen.out]; omega) k (by rw [hlen.out]; exact hlt) (by rw [HX.out]; exact hg)
          by_cases hg1 : x < 1
          · clear hg
            go_wp2
            try rw [Exit.noGoto_ret]
            go_ret
            exact ⟨ret_int H.out.symm, rfl⟩
          · have hg2 : 1000 < x := by omega
            clear hg
            go_wp2
            try rw [Exit.noGoto_ret]
            go_ret
            exact ⟨ret_int H.out.symm, rfl⟩
      · have H : Hid (chk xs = 0) := chk_good (by rw [hlen.out]; omega) (fun i hi => hall i (by rw [hlen.out] at hi; omega))
        go_wp2
        try rw [Exit.noGoto_ret]
        go_ret
        exact ⟨ret_int H.out.symm, rfl⟩
end Go.Proofs.Ytbgcglgbaekfeaa
