/-
  The walk over TimerSmall. No condition.
-/
import Derived.Test.YtbgcglgbaekfeaaY
namespace Go.Proofs.Ytbgcglgbaekfeaa
open Go.RowKit
attribute [local go_sem] onto_cell onto_frozen dnn
theorem ints_three {w : World} {b : Nat} {x y z : Int} (h : Blk w b [.int .i64 x, .int .i64 y, .int .i64 z] 3) : Ints w (some ⟨b, 0, none⟩) 3 [x, y, z] :=
  ints_of_blk (xs := [x, y, z]) h (by simp)
def endsL : List Int := [-9223372036854775808, -1, 0, 1, 999, 1000, 1001, 9223372036854775807]
/-- The numbers at their limits. -/
def endsV : List Value := endsL.map (Value.int .i64)
theorem ends_cell {w : World} {b i : Nat} (h : Blk w b endsV 3) (hi : i < 8) : w.cell? ⟨b, i, none⟩ = some (.int .i64 (endsL.getD i 0)) := by
  rw [h.cell]
  exact vals_at hi
theorem ends_bd : ∀ i, i < 8 → endsL.getD i 0 ≤ 9223372036854775807 := by decide
theorem ints_two {w : World} {b : Nat} {x y : Int} (h : Blk w b [.int .i64 x, .int .i64 y] 3) : Ints w (some ⟨b, 0, none⟩) 2 [x, y] :=
  ints_of_blk (xs := [x, y]) h (by simp)
theorem ints_one {w : World} {b : Nat} {x : Int} (h : Blk w b [.int .i64 x] 3) : Ints w (some ⟨b, 0, none⟩) 1 [x] :=
  ints_of_blk (xs := [x]) h (by simp)
theorem ints_tail {w : World} {g : Nat} (h : Blk w g (List.replicate 13 (.int .i64 1)) 3) : Ints w (some ⟨g, 1, none⟩) 12 (List.replicate 12 1) :=
  ⟨rfl, by omega, .inr ⟨g, 1, rfl, h.lt, fun i hi => by
    rw [h.cell, List.getElem?_replicate, if_pos (by omega), List.getD_eq_getElem?_getD, List.getElem?_replicate, if_pos hi]
    rfl⟩⟩
set_option maxHeartbeats 8000000 in
set_option maxRecDepth 100000 in
theorem law_small (w : World) : Calls Try.prog 7 #[] w fun e w' => e = .returned (.bool true) ∧ Keeps Non w w' := by
  go_enter Try.func7, Try.ntmps7
  go_wp2_with fail
  go_loopw [18] (fun i wr => ∃ k : Int, 0 ≤ k ∧ k ≤ 125 ∧ i = .int .i64 k ∧ Hid (Keeps Non w wr)) (fun i _ => 125 - (intOf i).toNat)
  case atStart => exact ⟨0, by omega, by omega, rfl, Keeps.refl _ _⟩
  case round =>
    obtain ⟨k, hk0, hk1, rfl, hK⟩ := hrel
    by_cases hlt : k < 125
    · go_wp2_with fail
      generalize k % 5 = x1 at *
      generalize k / 5 % 5 = x2 at *
      generalize k / 25 = x3 at *
      have hB := hide (Blk.new wr [.int .i64 x1, .int .i64 x2, .int .i64 x3] 3)
      have hK2 := hide (hK.out.alloc (.cells #[.int .i64 x1, .int .i64 x2, .int .i64 x3] 3))
      generalize hlb : wr.heap.size = lb at *
      clear hlb
      go_loopw [29] (fun i wr => ∃ m : Nat, m ≤ 4 ∧ i = .int .i64 m ∧ Hid (Keeps Non w wr) ∧ Hid (Blk wr lb [.int .i64 x1, .int .i64 x2, .int .i64 x3] 3)) (fun i _ => 4 - (intOf i).toNat)
      case atStart => exact ⟨0, by omega, rfl, hK2.out, hB.out⟩
      case round =>
        obtain ⟨m, hm, rfl, hK3, hB3⟩ := hrel
        by_cases hlm : m < 4
        · have hlm2 : (m : Int) < 4 := by omega
          have hlm3 : decide ((m : Int) < 4) = true := by simp; omega
          go_wp2_with fail
          go_loopw [32] (fun i wr => ∃ n : Int, 0 ≤ n ∧ n ≤ 7 ∧ i = .int .i64 n ∧ Hid (Keeps Non w wr) ∧ Hid (Blk wr lb [.int .i64 x1, .int .i64 x2, .int .i64 x3] 3)) (fun i _ => 7 - (intOf i).toNat)
          case atStart => exact ⟨0, by omega, by omega, rfl, hK3.out, hB3.out⟩
          case round =>
            obtain ⟨n, hn0, hn1, rfl, hK4, hB4⟩ := hrel
            by_cases hln : n < 7
            · go_wp2_with fail
              have hI4 := hide ((ints_three hB4.out).take (m := m) (by omega))
              refine (tells_any _ m 3 _ _ _ _ hI4.out (by omega)).mono ?_
              rintro e v1 ⟨rfl, hk⟩
              have hK5 := hide (hK4.out.then hk)
              have hB5 := hide (hB4.out.keeps hk id)
              have hI5 := hide (hI4.out.non hk)
              clear hk hI4
              go_wp2_with fail
              refine (tells_any _ m 3 _ _ _ _ hI5.out (by omega)).mono ?_
              rintro e v2 ⟨rfl, hk⟩
              have hK6 := hide (hK5.out.then hk)
              have hB6 := hide (hB5.out.keeps hk id)
              have hI6 := hide (hI5.out.non hk)
              clear hk hI5
              by_cases hn6 : n = 6
              · subst hn6
                go_wp2_with fail
                have hK7 := hide ((Keeps.refl Non v2).alloc (.cells #[.int .i64 2, .int .i64 1, .int .i64 1] 3))
                have hI7 := hide (ints_three (Blk.new v2 [.int .i64 2, .int .i64 1, .int .i64 1] 3))
                refine (ticks_any _ m 3 _ _ 3 3 _ 6 _ (hI6.out.non hK7.out) hI7.out (by omega) (by omega)).mono ?_
                rintro e v3 ⟨rfl, hk⟩
                have hk2 := hK7.out.then hk
                have hK8 := hide (hK6.out.then hk2)
                have hB8 := hide (hB6.out.keeps hk2 id)
                clear hk hk2
                go_wp2
                go_roundw
                case rel => exact ⟨7, by omega, by omega, rfl, hK8.out, hB8.out⟩
                case measure => simp [intOf]
              · have hn6b : (n == 6) = false := by simp [hn6]
                clear hn6
                go_wp2
                go_roundw
                case rel => exact ⟨n + 1, by omega, by omega, by go_num, hK6.out, hB6.out⟩
                case measure => simp [intOf]; omega
            · go_wp2_with fail
              go_roundw
              case rel => exact ⟨m + 1, by omega, by go_num, hK4.out, hB4.out⟩
              case measure => simp [intOf]; omega
        · go_wp2_with fail
          go_roundw
          case rel => exact ⟨k + 1, by omega, by omega, by go_num, hK3.out⟩
          case measure => simp [intOf]; omega
    · go_wp2_with fail
      have hE0 := hide (Blk.new wr endsV 3)
      have hKE := hide (hK.out.alloc (.cells endsV.toArray 3))
      generalize hgb : wr.heap.size = eb at *
      clear hgb
      go_loopw [72] (fun i wr => ∃ m : Nat, m ≤ 8 ∧ i = .int .i64 m ∧ Hid (Keeps Non w wr) ∧ Hid (Blk wr eb endsV 3)) (fun i _ => 8 - (intOf i).toNat)
      case atStart => exact ⟨0, by omega, rfl, hKE.out, hE0.out⟩
      case round =>
        obtain ⟨m, hm, rfl, hK3, hB3⟩ := hrel
        by_cases hlm : m < 8
        · have hlm2 : (m : Int) < 8 := by omega
          have hlm3 : decide ((m : Int) < 8) = true := by simp; omega
          have cA := ends_cell hB3.out hlm
          have bA := ends_bd m hlm
          have lA := Blk.lt hB3.out
          generalize endsL.getD m 0 = A at *
          go_wp2_with fail
          clear cA
          go_loopw [78] (fun i wr => ∃ n : Nat, n ≤ 8 ∧ i = .int .i64 n ∧ Hid (Keeps Non w wr) ∧ Hid (Blk wr eb endsV 3)) (fun i _ => 8 - (intOf i).toNat)
          case atStart => exact ⟨0, by omega, rfl, hK3.out, hB3.out⟩
          case round =>
            obtain ⟨n, hn, rfl, hK4, hB4⟩ := hrel
            by_cases hln : n < 8
            · have cB := ends_cell hB4.out hln
              have bB := ends_bd n hln
              have lB := Blk.lt hB4.out
              generalize endsL.getD n 0 = B at *
              go_wp2_with fail
              have hKa := hide ((Keeps.refl Non wr).alloc (.cells #[.int .i64 A, .int .i64 1000] 3))
              refine (tells_any _ 2 2 _ _ _ _ (ints_two (Blk.new wr [.int .i64 A, .int .i64 1000] 3)) (by omega)).mono ?_
              rintro e v1 ⟨rfl, hk⟩
              have hKb := hide (hKa.out.then hk)
              clear hk hKa
              go_wp2_with fail
              have hKa := hide ((Keeps.refl Non v1).alloc (.cells #[.int .i64 1000] 3))
              refine (tells_any _ 1 1 _ _ _ _ (ints_one (Blk.new v1 [.int .i64 1000] 3)) bB).mono ?_
              rintro e v2 ⟨rfl, hk⟩
              have hKc := hide (hKb.out.then (hKa.out.then hk))
              clear hk hKa hKb
              go_wp2_with fail
              refine (tells_any none 0 0 [] _ _ _ (Ints.nil _ _) bB).mono ?_
              rintro e v3 ⟨rfl, hk⟩
              have hKd := hide (hKc.out.then hk)
              clear hk hKc
              go_wp2_with fail
              have hKa := hide ((Keeps.refl Non v3).alloc (.cells #[.int .i64 7, .int .i64 A] 3))
              refine (tells_any _ 2 2 _ _ _ _ (ints_two (Blk.new v3 [.int .i64 7, .int .i64 A] 3)) bB).mono ?_
              rintro e v4 ⟨rfl, hk⟩
              have hKe := hide (hKd.out.then (hKa.out.then hk))
              clear hk hKa hKd
              go_wp2
              go_roundw
              case rel => exact ⟨n + 1, by omega, by go_num, hK4.out.then hKe.out, hB4.out.keeps hKe.out id⟩
              case measure => simp [intOf]; omega
            · go_wp2_with fail
              go_roundw
              case rel => exact ⟨m + 1, by omega, by go_num, hK4.out, hB4.out⟩
              case measure => simp [intOf]; omega
        · go_wp2_with fail
          have hKa := hide ((Keeps.refl Non wr).alloc (.cells #[.int .i64 1] 3))
          refine (repeat_13 _ _ (Blk.new wr [.int .i64 1] 3)).mono ?_
          rintro e v1 ⟨g, rfl, hg, hG, hk⟩
          have hK4 := hide (hK3.out.then (hKa.out.then hk))
          have hG1 := hide hG
          clear hk hG hKa hB3 hg
          go_wp2_with fail
          have hZ0 := hide (Blk.alloc (Blk.new v1 [.int .i64 0, .int .i64 0, .int .i64 0, .bool false, .bool false] 50) (.cells #[.pointer none, .pointer (some ⟨v1.heap.size, 0, none⟩)] 32))
          have hP0 := hide (Blk.newAt (n := v1.heap.size + 1) (v1.alloc (.cells #[.int .i64 0, .int .i64 0, .int .i64 0, .bool false, .bool false] 50)) [.pointer none, .pointer (some ⟨v1.heap.size, 0, none⟩)] 32 (by simp))
          have hk2 := hide (((Keeps.refl Non v1).alloc (.cells #[.int .i64 0, .int .i64 0, .int .i64 0, .bool false, .bool false] 50)).alloc (.cells #[.pointer none, .pointer (some ⟨v1.heap.size, 0, none⟩)] 32))
          have hK5 := hide (hK4.out.then hk2.out)
          have hG2 := hide (hG1.out.keeps hk2.out id)
          clear hk2
          generalize hzb : v1.heap.size = zb at *
          clear hzb
          go_loopw [115] (fun i wr => ∃ m : Nat, m ≤ 2 ∧ i = .int .i64 m ∧ Hid (Keeps Non w wr) ∧ Hid (Blk wr g (List.replicate 13 (.int .i64 1)) 3) ∧ Hid (Blk wr (zb + 1) [.pointer none, .pointer (some ⟨zb, 0, none⟩)] 32) ∧ Hid (Blk wr zb [.int .i64 0, .int .i64 0, .int .i64 0, .bool false, .bool false] 50)) (fun i _ => 2 - (intOf i).toNat)
          case atStart => exact ⟨0, by omega, rfl, hK5.out, hG2.out, hP0.out, hZ0.out⟩
          case round =>
            obtain ⟨j, hj, rfl, hK6, hG6, hP6, hZ6⟩ := hrel
            by_cases hlj : j < 2
            · obtain ⟨p, hp, hN⟩ : ∃ p, wr.cell? ⟨zb + 1, j, none⟩ = some (.pointer p) ∧ NoT wr p := by
                rw [hP6.out.cell]
                rcases Nat.lt_succ_iff_lt_or_eq.1 hlj with h | rfl
                · obtain rfl : j = 0 := by omega
                  exact ⟨none, rfl, .inl rfl⟩
                · exact ⟨some ⟨zb, 0, none⟩, rfl, .inr ⟨zb, rfl, hZ6.out⟩⟩
              have hN6 := hide hN
              have lP := Blk.lt hP6.out
              clear hN
              go_wp2_with fail
              refine (tick_not_one p _ hN6.out).mono ?_
              rintro e v2 ⟨rfl, rfl⟩
              go_wp2_with fail
              refine (left_not_one p _ hN6.out).mono ?_
              rintro e v2 ⟨rfl, rfl⟩
              go_wp2_with fail
              refine (at_not_one p _ hN6.out).mono ?_
              rintro e v2 ⟨rfl, rfl⟩
              go_wp2_with fail
              refine (fired_not_one p _ hN6.out).mono ?_
              rintro e v2 ⟨rfl, rfl⟩
              go_wp2_with fail
              refine (enter_not_one p _ _ hN6.out).mono ?_
              rintro e v2 ⟨rfl, rfl⟩
              go_wp2
              go_roundw
              case rel => exact ⟨j + 1, by omega, by go_num, hK6.out, hG6.out, hP6.out, hZ6.out⟩
              case measure => simp [intOf]; omega
            · clear hP6 hZ6 hG2 hP0 hZ0 hG1
              have hI := hide (ints_of_blk (xs := List.replicate 13 1) (show Blk wr g ((List.replicate 13 (1 : Int)).map (Value.int .i64)) 3 from hG6.out) (by simp))
              go_wp2_with fail
              refine (tells_any _ 13 13 _ _ _ _ hI.out (by omega)).mono ?_
              rintro e v2 ⟨rfl, hk⟩
              have hI2 := hide (hI.out.non hk)
              have hI1 := hide (ints_tail (hG6.out.keeps hk id))
              have hK7 := hide (hK6.out.then hk)
              clear hk hI
              go_wp2_with fail
              refine (tells_any _ 12 12 _ _ _ _ hI1.out (by omega)).mono ?_
              rintro e v3 ⟨rfl, hk⟩
              have hI3 := hide (hI2.out.non hk)
              have hK8 := hide (hK7.out.then hk)
              clear hk hI2 hI1
              go_wp2_with fail
              refine (ticks_any _ 13 13 _ none 0 0 [] 1 _ hI3.out (Ints.nil _ _) (by omega) (by omega)).mono ?_
              rintro e v4 ⟨rfl, hk⟩
              have hI4 := hide (hI3.out.non hk)
              have hK9 := hide (hK8.out.then hk)
              clear hk hI3
              go_wp2_with fail
              have hKa := hide ((Keeps.refl Non v4).alloc (.cells #[.int .i64 2] 3))
              refine (ticks_any _ 1 1 _ _ 13 13 _ 1 _ (ints_one (Blk.new v4 [.int .i64 2] 3)) (hI4.out.non hKa.out) (by omega) (by omega)).mono ?_
              rintro e v5 ⟨rfl, hk⟩
              have hK10 := hide (hK9.out.then (hKa.out.then hk))
              clear hk hI4 hKa
              go_wp2_with (first | (go_at_call 10; refine (awake_any _).mono ?_; rintro e w' ⟨rfl, hk⟩))
              go_ret
              exact ⟨rfl, hK10.out.then (by assumption)⟩
end Go.Proofs.Ytbgcglgbaekfeaa
