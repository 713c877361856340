/-
  The reference's begins, digit, may. No condition.
-/
import Derived.Test.YtoogopcaieodoaaRd
namespace Go.Proofs.Ytoogopcaieodoaa
open Go.RowKit Go.Shelf
attribute [local go_sem] onto_cell onto_frozen
attribute [-go_sem] loadCellsFrom
theorem begins_l (s p : ByteArray) (v : Bool) (w : World) (h : Lib.hasPrefix s.data.toList p.data.toList = v) :
    Calls Try.prog 45 #[.string s, .string p] w fun e w' => e = .returned (.bool v) ∧ w = w' := by
  rw [← Lib.hasPrefix_raw] at h
  obtain ⟨b, hb⟩ : ∃ b, ((s.extract 0 p.size).toList == p.toList) = b := ⟨_, rfl⟩
  rw [hb] at h
  have H := hide h
  clear h
  by_cases hle : p.size ≤ s.size
  · have h1 : (p.size : Int) ≤ (s.size : Int) := by omega
    have h2 : (0 : Int) ≤ (p.size : Int) := by omega
    go_enter Try.func45, Try.ntmps45
    go_wp2_with fail
    go_ret
    refine ⟨ret_bool ?_, rfl⟩
    rw [← H.out]
    simp [hle]
  · have h1 : ¬ (p.size : Int) ≤ (s.size : Int) := by omega
    have h3 : decide ((p.size : Int) ≤ (s.size : Int)) = false := by simpa using h1
    go_enter Try.func45, Try.ntmps45
    go_wp2_with fail
    go_ret
    refine ⟨ret_bool ?_, rfl⟩
    rw [← H.out]
    simp [hle]
/-- A digit's number, 0 for what is none. -/
def dg (c : Int) : Int := if nib c < 16 then nib c else 0
set_option maxRecDepth 100000 in
theorem nib_back (d : Int) (h0 : 0 ≤ d) (h1 : d ≤ 255) (h : nib d < 16) : ((hx (nib d).toNat).toNat : Int) = d ∨ ((hX (nib d).toNat).toNat : Int) = d := by
  have a : ∀ d : Fin 256, nib (d.val : Int) < 16 → ((hx (nib (d.val : Int)).toNat).toNat : Int) = (d.val : Int) ∨ ((hX (nib (d.val : Int)).toNat).toNat : Int) = (d.val : Int) := by decide
  have := a ⟨d.toNat, by omega⟩
  simp only [Int.toNat_of_nonneg h0] at this
  exact this h
set_option maxHeartbeats 4000000 in
theorem digit_l (d v : Int) (w : World) (h0 : 0 ≤ d) (h1 : d ≤ 255) (hv : dg d = v) :
    Calls Try.prog 52 #[.int .u8 d] w fun e w' => e = .returned (.int .i64 v) ∧ w = w' := by
  have HV := hide hv
  clear hv
  go_enter Try.func52, Try.ntmps52
  go_wp2_with fail
  go_loopw [3] (fun i wr => ∃ (k : Nat), k ≤ 16 ∧ i = .int .i64 k ∧ Hid (∀ j, j < k → ((hx j).toNat : Int) ≠ d ∧ ((hX j).toNat : Int) ≠ d) ∧ w = wr) (fun i _ => 16 - (intOf i).toNat)
  case atStart => exact ⟨0, by omega, rfl, fun j hj => by omega, rfl⟩
  case round =>
    obtain ⟨k, hk, rfl, hJ, rfl⟩ := hrel
    by_cases hlt : k < 16
    · obtain ⟨x, hx'⟩ : ∃ x : Int, ((hx k).toNat : Int) = x := ⟨_, rfl⟩
      obtain ⟨y, hy'⟩ : ∃ y : Int, ((hX k).toNat : Int) = y := ⟨_, rfl⟩
      have H1 := hide (fun w => hexR_at (k : Int) false x w (by omega) (by omega) (by simpa using hx'))
      have H2 := hide (fun w => hexR_at (k : Int) true y w (by omega) (by omega) (by simpa using hy'))
      have H3 := hide (nib_hx k hlt)
      have H4 := hide (nib_hX k hlt)
      rw [hx'] at H3
      rw [hy'] at H4
      have HX := hide hx'
      have HY := hide hy'
      clear hx' hy'
      have k1 : (k : Int) < 16 := by omega
      by_cases e1 : d = x
      · subst e1
        go_wp2_with fail
        refine (H1.out _).mono ?_
        rintro e _ ⟨rfl, rfl⟩
        go_wp2_with fail
        go_ret
        refine ⟨ret_int ?_, rfl⟩
        rw [← HV.out]
        unfold dg
        rw [H3.out, if_pos (by omega)]
      · by_cases e2 : d = y
        · subst e2
          have e1' : (d == x) = false := by simpa using e1
          go_wp2_with fail
          refine (H1.out _).mono ?_
          rintro e _ ⟨rfl, rfl⟩
          go_wp2_with fail
          refine (H2.out _).mono ?_
          rintro e _ ⟨rfl, rfl⟩
          go_wp2_with fail
          go_ret
          refine ⟨ret_int ?_, rfl⟩
          rw [← HV.out]
          unfold dg
          rw [H4.out, if_pos (by omega)]
        · have e1' : (d == x) = false := by simpa using e1
          have e2' : (d == y) = false := by simpa using e2
          have HN : Hid (∀ j, j < k + 1 → ((hx j).toNat : Int) ≠ d ∧ ((hX j).toNat : Int) ≠ d) := by
            intro j hj
            by_cases hjk : j = k
            · subst hjk
              rw [HX.out, HY.out]
              exact ⟨fun h => e1 h.symm, fun h => e2 h.symm⟩
            · exact hJ.out j (by omega)
          go_wp2_with fail
          refine (H1.out _).mono ?_
          rintro e _ ⟨rfl, rfl⟩
          go_wp2_with fail
          refine (H2.out _).mono ?_
          rintro e _ ⟨rfl, rfl⟩
          go_wp2_with fail
          go_roundw
          case rel => exact ⟨k + 1, by omega, by go_num, HN, by first | rfl | trivial⟩
          case measure => simp [intOf]; omega
    · have hk2 : k = 16 := by omega
      subst hk2
      go_wp2_with fail
      go_ret
      refine ⟨ret_int ?_, rfl⟩
      rw [← HV.out]
      unfold dg
      by_cases hn : nib d < 16
      · have hn0 := nib_nonneg d
        have := hJ.out (nib d).toNat (by omega)
        rcases nib_back d h0 h1 hn with h | h
        · exact absurd h this.1
        · exact absurd h this.2
      · rw [if_neg hn]
end Go.Proofs.Ytoogopcaieodoaa
