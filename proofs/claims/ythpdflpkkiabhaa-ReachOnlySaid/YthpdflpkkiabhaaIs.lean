/-
  slices.IsSorted over ints: the walk, for a slice that is in order. No condition.
-/
import Derived.Test.YthpdflpkkiabhaaPn
import Derived.Test.YthpdflpkkiabhaaLf
namespace Go.Proofs.Ythpdflpkkiabhaa
open Go.RowKit
attribute [local go_sem] onto_cell onto_frozen
set_option linter.unusedVariables false
set_option maxRecDepth 100000 in
set_option maxHeartbeats 4000000 in
theorem isSorted_l (a : Option Addr) (n cap : Nat) (xs : List Int) (w : World) (h : Ints w a n xs) (hs : ∀ j, j + 1 < n → xs.getD j 0 ≤ xs.getD (j + 1) 0) :
    Calls Try.prog 39 #[.slice a n cap] w fun e w' => e = .returned (.bool true) ∧ Keeps Non w w' := by
  have hn := h.big
  have HX := hide h
  have HS := hide hs
  clear h hs
  have wn : IntKind.i64.wrap ((n : Int) - 1) = (n : Int) - 1 := IntWalk.i64_in _ (by omega)
  go_enter Try.func39, Try.ntmps39
  go_wp2_with fail
  obtain ⟨W, hW, hWk⟩ : ∃ W, w = W ∧ Keeps Non w W := ⟨w, rfl, Keeps.refl _ _⟩
  go_loopw [3] (fun i wr => ∃ m : Int, -1 ≤ m ∧ m < n ∧ i = .int .i64 m ∧ Keeps Non w wr) (fun i _ => (intOf i).toNat)
  case atStart => exact ⟨(n : Int) - 1, by omega, by omega, by go_num, Keeps.refl _ _⟩
  case round =>
    obtain ⟨m, hm0, hmn, rfl, hkw⟩ := hrel
    by_cases hlt : 0 < m
    · obtain ⟨b1, o1, rfl, hb1, hc1⟩ := (HX.out.non hkw).at (by omega)
      obtain ⟨q, rfl⟩ : ∃ q : Nat, m = ((q + 1 : Nat) : Int) := ⟨(m - 1).toNat, by omega⟩
      have ck := hc1 (q + 1) (by omega)
      have dk := hc1 q (by omega)
      have hxy := HS.out q (by omega)
      obtain ⟨x, hx⟩ : ∃ x, xs.getD (q + 1) 0 = x := ⟨_, rfl⟩
      obtain ⟨y, hy⟩ : ∃ x, xs.getD q 0 = x := ⟨_, rfl⟩
      rw [hx] at ck hxy
      rw [hy] at dk hxy
      obtain ⟨p, hp⟩ : ∃ p, q + 1 = p := ⟨_, rfl⟩
      rw [hp] at ck hlt hmn ⊢
      have wk : IntKind.i64.wrap ((p : Int) - 1) = (q : Int) := by rw [IntWalk.i64_in _ (by omega)]; omega
      have z0 : (0 : Int) ≤ (p : Int) := by omega
      have z1 : (p : Int) < (n : Int) := by omega
      have y0 : (0 : Int) ≤ (q : Int) := by omega
      have y1 : (q : Int) < (n : Int) := by omega
      have HL : Hid (∀ u, Calls Try.prog 63 #[.int .i64 x, .int .i64 y] (onto wr u) fun e w' => e = .returned (.bool false) ∧ onto wr u = w') := fun u => (Try.cmp_Less_int2 x y _).mono fun e w' ⟨h1, h2⟩ => ⟨by rw [h1, decide_eq_false (by omega)], h2.symm⟩
      have HP := hide hp
      have HKW := hide hkw
      clear hc1 hx hy hW hWk hkw hp hxy wn hm0
      go_wp2_with fail
      refine wp_region_onto (by kernel_rfl) (by kernel_rfl) ?_
      repeat (go_big_quiet_step (first | (go_at_call 63; exact onto_same (HL.out _))))
      refine wpQuiet_nil ?_
      rintro _ ⟨u, rfl⟩
      go_wp2_with fail
      go_roundw
      case rel => exact ⟨(q : Int), by omega, by omega, by go_num, HKW.out.then (onto_keeps _ _)⟩
      case measure => have := HP.out; simp [intOf]; omega
    · have HKW := hide hkw
      clear hkw hW hWk wn
      go_wp2_with fail
      try rw [Exit.noGoto_ret]
      go_ret
      exact ⟨rfl, HKW.out⟩
end Go.Proofs.Ythpdflpkkiabhaa
