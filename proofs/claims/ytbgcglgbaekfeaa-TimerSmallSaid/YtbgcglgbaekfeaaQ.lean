/-
  Walks over layer 34's reference: Check, First. No condition.
-/
import Derived.Test.YtbgcglgbaekfeaaO
namespace Go.Proofs.Ytbgcglgbaekfeaa
open Go.RowKit
attribute [local go_sem] onto_cell onto_frozen
set_option maxHeartbeats 1000000 in
theorem rcheck_any (a : Option Addr) (n cap : Nat) (xs : List Int) (w : World) (h : Ints w a n xs) :
    Calls Try.prog 26 #[.slice a n cap] w fun e w' => e = .returned (.int .i64 (chk xs)) ∧ w = w' := by
  by_cases h12 : 12 < n
  · have hc : Hid (chk xs = 5) := chk_many (by rw [h.len]; exact h12)
    have h12' : (12 : Int) < (n : Int) := by omega
    clear h h12
    go_enter Try.func26, Try.ntmps26
    go_wp2
    try rw [Exit.noGoto_ret]
    go_ret
    exact ⟨ret_int hc.out.symm, rfl⟩
  · have h12' : ¬ (12 : Int) < (n : Int) := by omega
    have hlen := hide h.len
    have hbig := h.big
    have hcell := hide h.cell
    clear h
    go_enter Try.func26, Try.ntmps26
    go_wp2
    go_loop [3] (fun i => ∃ k : Nat, k ≤ n ∧ i = .int .i64 k ∧ Hid (∀ j, j < k → 1 ≤ xs.getD j 0 ∧ xs.getD j 0 ≤ 1000)) (fun i => n - (intOf i).toNat)
    case atStart => exact ⟨0, Nat.zero_le _, rfl, fun j hj => by omega⟩
    case round =>
      obtain ⟨k, hk, rfl, hall⟩ := hrel
      by_cases hlt : k < n
      · obtain ⟨x, hx⟩ : ∃ x, xs.getD k 0 = x := ⟨_, rfl⟩
        obtain ⟨b, off, rfl, hb, hc⟩ := hcell.out.resolve_left (by omega)
        have hck := hc k hlt
        rw [hx] at hck
        have HX := hide hx
        clear hx hc
        by_cases hg : 1 ≤ x ∧ x ≤ 1000
        · obtain ⟨hg1, hg2⟩ := hg
          go_wp2
          go_round
          case rel => exact ⟨k + 1, by omega, by go_num, fun j hj => by
            rcases Nat.lt_succ_iff_lt_or_eq.1 hj with h | rfl
            · exact hall j h
            · rw [HX.out]; exact ⟨hg1, hg2⟩⟩
          case measure => simp [intOf]; omega
        · have H : Hid (chk xs = 340) := chk_bad (by rw [hlen.out]; omega) k (by rw [hlen.out]; exact hlt) (by rw [HX.out]; exact hg)
          by_cases hg1 : x < 1
          · clear hg
            go_wp2
            try rw [Exit.noGoto_ret]
            go_ret
            exact ⟨ret_int H.out.symm, rfl⟩
          · have hg2 : 1000 < x := by omega
            clear hg
            go_wp2
            try rw [Exit.noGoto_ret]
            go_ret
            exact ⟨ret_int H.out.symm, rfl⟩
      · have H : Hid (chk xs = 0) := chk_good (by rw [hlen.out]; omega) (fun i hi => hall i (by rw [hlen.out] at hi; omega))
        go_wp2
        try rw [Exit.noGoto_ret]
        go_ret
        exact ⟨ret_int H.out.symm, rfl⟩
theorem ofI_unique {xs : List Int} {i : Nat} (hi : i < xs.length) (h1 : ∀ j, j < xs.length → xs.getD i 0 ≤ xs.getD j 0) (h2 : ∀ j, j < i → xs.getD i 0 < xs.getD j 0) : ofI xs = i := by
  have hx : xs ≠ [] := by intro h; subst h; simp at hi
  have a1 := ofI_lt hx
  have a2 := ofK_le xs xs.length i hi
  have a3 := h1 (ofI xs) a1
  rcases Nat.lt_trichotomy (ofI xs) i with h | h | h
  · have := h2 _ h
    unfold ofI at *
    omega
  · exact h
  · have := ofK_first xs xs.length i h
    unfold ofI at *
    omega
theorem lI_found {xs : List Int} {i : Nat} {m : Int} (hi : i < xs.length) (hm : xs.getD i 0 = m) (h1 : ∀ j, j < xs.length → m ≤ xs.getD j 0) (h2 : ∀ j, j < i → xs.getD j 0 ≠ m) : lI xs = i := by
  have hx : xs ≠ [] := by intro h; subst h; simp at hi
  have := ofI_unique hi (fun j hj => by rw [hm]; exact h1 j hj) (fun j hj => by
    have a := h1 j (by omega)
    have b := h2 j hj
    rw [hm]
    omega)
  simp [lI, hx, this]
set_option maxHeartbeats 2000000 in
theorem rfirst_any (a : Option Addr) (n cap : Nat) (xs : List Int) (w : World) (h : Ints w a n xs) (hc0 : chk xs = 0) :
    Calls Try.prog 31 #[.slice a n cap] w fun e w' => e = .returned (.int .i64 (lI xs)) ∧ w = w' := by
  have hlen := hide h.len
  have hbig := h.big
  have hcell := hide h.cell
  have hbd := hide (chk_ok hc0)
  clear h hc0
  go_enter Try.func31, Try.ntmps31
  go_wp2
  go_loop [3] (fun m => ∃ k : Int, 1 ≤ k ∧ k ≤ 1001 ∧ m = .int .i64 k ∧ Hid (∀ j, j < n → k ≤ xs.getD j 0)) (fun m => 1001 - (intOf m).toNat)
  case atStart => exact ⟨1, by omega, by omega, rfl, fun j hj => (hbd.out j (by rw [hlen.out]; exact hj)).1⟩
  case round =>
    obtain ⟨m, hm0, hm1, rfl, hall⟩ := hrel
    by_cases hm : m ≤ 1000
    · go_wp2_with fail
      go_loop [4] (fun i => ∃ k : Nat, k ≤ n ∧ i = .int .i64 k ∧ Hid (∀ j, j < k → xs.getD j 0 ≠ m)) (fun i => n - (intOf i).toNat)
      case atStart => exact ⟨0, Nat.zero_le _, rfl, fun j hj => by omega⟩
      case round =>
        obtain ⟨k, hk, rfl, hno⟩ := hrel
        by_cases hlt : k < n
        · obtain ⟨x, hx⟩ : ∃ x, xs.getD k 0 = x := ⟨_, rfl⟩
          obtain ⟨b, off, rfl, hb, hc⟩ := hcell.out.resolve_left (by omega)
          have hck := hc k hlt
          rw [hx] at hck
          have HX := hide hx
          have y0 : (0 : Int) ≤ (k : Int) := by omega
          have y1 : (k : Int) < (n : Int) := by omega
          clear hx hc
          by_cases hxm : x = m
          · have H : Hid (lI xs = k) := lI_found (by rw [hlen.out]; exact hlt) (HX.out.trans hxm) (fun j hj => hall.out j (by rw [← hlen.out]; exact hj)) hno.out
            go_wp2
            try rw [Exit.noGoto_ret]
            go_ret
            exact ⟨ret_int H.out.symm, rfl⟩
          · go_wp2
            go_round
            case rel => exact ⟨k + 1, by omega, by go_num, fun j hj => by
              rcases Nat.lt_succ_iff_lt_or_eq.1 hj with h | rfl
              · exact hno.out j h
              · rw [HX.out]; exact hxm⟩
            case measure => simp [intOf]; omega
        · go_wp2
          go_round
          case rel => exact ⟨m + 1, by omega, by omega, by go_num, fun j hj => by
            have a := hall.out j hj
            have b := hno.out j (by omega)
            omega⟩
          case measure => simp [intOf]; omega
    · have H : Hid (lI xs = -1) := by
        have : xs = [] := by
          by_cases hx : xs = []
          · exact hx
          · have hp := List.length_pos_iff.2 hx
            have a := hall.out 0 (by rw [← hlen.out]; exact hp)
            have b := (hbd.out 0 hp).2
            omega
        simp [Hid, lI, this]
      go_wp2
      try rw [Exit.noGoto_ret]
      go_ret
      exact ⟨ret_int H.out.symm, rfl⟩
end Go.Proofs.Ytbgcglgbaekfeaa
