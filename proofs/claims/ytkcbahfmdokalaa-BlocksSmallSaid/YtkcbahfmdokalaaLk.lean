/-
  The walk over BlocksKeys. No condition beyond the row's own.
-/
import Derived.Test.YtkcbahfmdokalaaW
import Derived.Test.YtkcbahfmdokalaaOp
namespace Go.Proofs.Ytkcbahfmdokalaa
open Go.RowKit
attribute [local go_sem] onto_cell onto_frozen
set_option linter.unusedVariables false
def longB (n : Nat) : Bool := (decide (60 < n) && decide (n ≤ 1024)) || decide (1100 ≤ n)
theorem long_l (n : Nat) (v : Bool) (w : World) (hn : n ≤ 9223372036854775807) (hv : longB n = v) : Calls Try.prog 13 #[.int .i64 n] w fun e w' => e = .returned (.bool v) ∧ w = w' := by
  have HV := hide hv
  clear hv
  by_cases h1 : 60 < n
  · have i1 : (60 : Int) < (n : Int) := by omega
    by_cases h2 : n ≤ 1024
    · have i2 : (n : Int) ≤ 1024 := by omega
      have HE : Hid (v = true) := by
        show _ = _
        rw [← HV.out]
        unfold longB
        simp [h1, h2]
      clear h1 h2
      go_enter Try.func13, Try.ntmps13
      go_wp2_with fail
      go_ret
      exact ⟨ret_bool HE.out.symm, rfl⟩
    · have i2 : decide ((n : Int) ≤ 1024) = false := by simp; omega
      by_cases h3 : 1100 ≤ n
      · have i3 : (1100 : Int) ≤ (n : Int) := by omega
        have HE : Hid (v = true) := by
          show _ = _
          rw [← HV.out]
          unfold longB
          simp [h3]
        clear h1 h2 h3
        go_enter Try.func13, Try.ntmps13
        go_wp2_with fail
        go_ret
        refine ⟨?_, rfl⟩
        rw [HE.out]
        rfl
      · have i3 : ¬ (1100 : Int) ≤ (n : Int) := by omega
        have HE : Hid (v = false) := by
          show _ = _
          rw [← HV.out]
          unfold longB
          simp only [h2, h3, decide_false, Bool.and_false, Bool.or_false]
        clear h1 h2 h3
        go_enter Try.func13, Try.ntmps13
        go_wp2_with fail
        go_ret
        refine ⟨?_, rfl⟩
        rw [HE.out]
        rfl
  · have i1 : decide ((60 : Int) < (n : Int)) = false := by simp; omega
    have i3 : ¬ (1100 : Int) ≤ (n : Int) := by omega
    have HE : Hid (v = false) := by
      show _ = _
      rw [← HV.out]
      unfold longB
      simp only [h1, show ¬ 1100 ≤ n by omega, decide_false, Bool.false_and, Bool.or_false]
    clear h1
    go_enter Try.func13, Try.ntmps13
    go_wp2_with fail
    go_ret
    refine ⟨?_, rfl⟩
    rw [HE.out]
    rfl
theorem longB_not {n : Nat} (h : longB n = false) : n < 1100 ∧ (n ≤ 60 ∨ 1024 < n) := by
  unfold longB at h
  simp only [Bool.or_eq_false_iff, Bool.and_eq_false_iff, decide_eq_false_iff_not] at h
  omega
set_option maxRecDepth 100000 in
set_option maxHeartbeats 8000000 in
theorem law_keys (a b : Option Addr) (n cap m cap2 : Nat) (xs : List Int) (ys : List ByteArray) (w : World) (h : RawI w a n xs) (h2 : RawS w b m ys) :
    Calls Try.prog 3 #[.slice a n cap, .slice b m cap2] w fun e w' => e = .returned (.bool true) ∧ Keeps Non w w' := by
  have hn := h.lim
  have hm := h2.lim
  cases hl : longB n with
  | true =>
    have HL := hide (long_l n true w hn hl)
    have HA := hide (awake_l w)
    clear h h2 hl
    go_enter Try.func3, Try.ntmps3
    go_wp2_with fail
    refine HL.out.mono ?_
    rintro e w1 ⟨rfl, rfl⟩
    go_wp2_with fail
    refine HA.out.mono ?_
    rintro e w1 ⟨rfl, hk⟩
    go_wp2_with fail
    go_ret
    exact ⟨rfl, hk⟩
  | false =>
    have HL := hide (long_l n false w hn hl)
    cases hl2 : longB m with
    | true =>
      have HL2 := hide (long_l m true w hm hl2)
      have HA := hide (awake_l w)
      clear h h2 hl hl2
      go_enter Try.func3, Try.ntmps3
      go_wp2_with fail
      refine HL.out.mono ?_
      rintro e w1 ⟨rfl, rfl⟩
      go_wp2_with fail
      refine HL2.out.mono ?_
      rintro e w1 ⟨rfl, rfl⟩
      go_wp2_with fail
      refine HA.out.mono ?_
      rintro e w1 ⟨rfl, hk⟩
      go_wp2_with fail
      go_ret
      exact ⟨rfl, hk⟩
    | false =>
      have HL2 := hide (long_l m false w hm hl2)
      obtain ⟨n1, n2⟩ := longB_not hl
      obtain ⟨m1, m2⟩ := longB_not hl2
      have HX := hide (h.ints (by omega))
      have HY := hide (h2.strs (by omega))
      have HG := hide h.good
      have HW := hide h2.wf
      have HC := hide (clone_l a n cap xs w HX.out (by omega))
      have HC2 : Hid (∀ w', Keeps Non w w' → Calls Try.prog 16 #[.slice b m cap2] w' fun e w2 => ∃ a' c', e = .returned (.slice a' m c') ∧ StrsIn w2 a' m ys ∧ Keeps Non w' w2) := fun w' hk => clone_str b m cap2 ys w' (HY.out.non hk) (by omega)
      have HA := hide awake_l
      obtain rfl := h.len
      clear h h2 hl hl2
      go_enter Try.func3, Try.ntmps3
      go_wp2_with fail
      refine HL.out.mono ?_
      rintro e w1 ⟨rfl, rfl⟩
      go_wp2_with fail
      refine HL2.out.mono ?_
      rintro e w1 ⟨rfl, rfl⟩
      go_wp2_with fail
      refine HC.out.mono ?_
      rintro e w1 ⟨_, rfl, a1, c1, rfl, hI, hk1⟩
      have HI := hide hI
      have HK1 := hide hk1
      have HC3 := hide (HC2.out w1 hk1)
      clear hI hk1 HC2
      go_wp2_with fail
      refine HC3.out.mono ?_
      rintro e w2 ⟨b1, d1, rfl, hS, hk2⟩
      have HS := hide hS
      have HK2 := hide (HK1.out.then hk2)
      have HI2 := hide (HI.out.non hk2)
      clear hS hk2 HI HC3
      rcases n2 with n3 | n3
      · rcases m2 with m3 | m3
        · have i1 : ¬ (1024 : Int) < (xs.length : Int) := by omega
          have HO := hide (ofInt_l a1 xs.length c1 xs w2 HI2.out (by omega) HG.out)
          go_wp2_with fail
          refine HO.out.mono ?_
          rintro e w3 ⟨_, rfl, hN⟩
          obtain ⟨g, rfl, hg, hB, hk3⟩ := hN
          rw [numb_length]
          have hIg := ints_of_blk hB (by rw [numb_length]; omega)
          rw [numb_length] at hIg
          have HIg := hide hIg
          clear hIg hB hg
          have HK3 := hide hk3
          clear hk3 HO
          have j1 : ¬ (1024 : Int) < (m : Int) := by omega
          have HO2 := hide (ofStr_l b1 m d1 ys w3 (HS.out.non HK3.out) (by omega) HW.out)
          go_wp2_with fail
          refine HO2.out.mono ?_
          rintro e w4 ⟨g2, rfl, hg2, hB2, hk4⟩
          have hIt := ints_of_blk hB2 (by have := HY.out.len; rw [numb_length]; simp; omega)
          have hnl : (numb [] (ys.map tl)).length = m := by rw [numb_length, List.length_map, HY.out.len]
          rw [hnl] at hIt
          have HIt := hide hIt
          clear hIt hB2 hg2 hnl
          have HK4 := hide (HK3.out.then hk4)
          have HIg4 := hide (HIg.out.non hk4)
          clear hk4 HO2
          have HE := equal_any a1 xs.length c1 xs a xs.length cap xs w4 (HI2.out.non HK4.out) (HX.out.non (HK2.out.then HK4.out))
          rw [decide_eq_true rfl] at HE
          have HE1 := hide HE
          clear HE
          go_wp2_with fail
          refine HE1.out.mono ?_
          rintro e w5 ⟨rfl, hk5⟩
          have HK5 := hide (HK4.out.then hk5)
          have HIg5 := hide (HIg4.out.non hk5)
          have HIt5 := hide (HIt.out.non hk5)
          clear hk5 HE1
          have HE := equal_str b1 m d1 ys b m cap2 ys w5 (HS.out.non HK5.out) (HY.out.non (HK2.out.then HK5.out))
          rw [decide_eq_true rfl] at HE
          have HE1 := hide HE
          clear HE
          go_wp2_with fail
          refine HE1.out.mono ?_
          rintro e w6 ⟨rfl, hk6⟩
          have HK6 := hide (HK5.out.then hk6)
          have HIg6 := hide (HIg5.out.non hk6)
          have HIt6 := hide (HIt5.out.non hk6)
          clear hk6 HE1
          have HR := hide (intsR_l a xs.length cap xs w6 (HX.out.non (HK2.out.then HK6.out)) (by omega))
          go_wp2_with fail
          refine HR.out.mono ?_
          rintro e w7 ⟨_, rfl, a7, c7, rfl, hI7, hk7⟩
          rw [numb_length] at hI7 ⊢
          have HI7 := hide hI7
          have HK7 := hide (HK6.out.then hk7)
          have HIg7 := hide (HIg6.out.non hk7)
          have HIt7 := hide (HIt6.out.non hk7)
          clear hI7 hk7 HR
          have HE := equal_any _ xs.length xs.length _ a7 xs.length c7 _ w7 HIg7.out HI7.out
          rw [decide_eq_true rfl] at HE
          have HE1 := hide HE
          clear HE
          go_wp2_with fail
          refine HE1.out.mono ?_
          rintro e w8 ⟨rfl, hk8⟩
          have HK8 := hide (HK7.out.then hk8)
          have HIt8 := hide (HIt7.out.non hk8)
          clear hk8 HE1
          have HR := hide (textsR_l b m cap2 ys w8 (HY.out.non (HK2.out.then HK8.out)) (by omega))
          go_wp2_with fail
          refine HR.out.mono ?_
          rintro e w9 ⟨_, rfl, a9, c9, rfl, hI9, hk9⟩
          have hnl : (numb [] (ys.map tl)).length = m := by rw [numb_length, List.length_map, HY.out.len]
          rw [hnl] at hI9 ⊢
          have HI9 := hide hI9
          have HK9 := hide (HK8.out.then hk9)
          have HIt9 := hide (HIt8.out.non hk9)
          clear hI9 hk9 HR hnl
          have HE := equal_any _ m m _ a9 m c9 _ w9 HIt9.out HI9.out
          rw [decide_eq_true rfl] at HE
          have HE1 := hide HE
          clear HE
          go_wp2_with fail
          refine HE1.out.mono ?_
          rintro e w10 ⟨rfl, hk10⟩
          have HK10 := hide (HK9.out.then hk10)
          clear hk10 HE1
          go_wp2_with fail
          refine (HA.out w10).mono ?_
          rintro e w11 ⟨rfl, hk11⟩
          go_wp2_with fail
          go_ret
          exact ⟨rfl, HK2.out.then (HK10.out.then hk11)⟩
        · have i1 : ¬ (1024 : Int) < (xs.length : Int) := by omega
          have HO := hide (ofInt_l a1 xs.length c1 xs w2 HI2.out (by omega) HG.out)
          go_wp2_with fail
          refine HO.out.mono ?_
          rintro e w3 ⟨_, rfl, hN⟩
          obtain ⟨g, rfl, hg, hB, hk3⟩ := hN
          rw [numb_length]
          have hIg := ints_of_blk hB (by rw [numb_length]; omega)
          rw [numb_length] at hIg
          have HIg := hide hIg
          clear hIg hB hg
          have HK3 := hide hk3
          clear hk3 HO
          have j1 : (1024 : Int) < (m : Int) := by omega
          have HO2 := hide (ofStr_many b1 m d1 w3 (by omega))
          go_wp2_with fail
          refine HO2.out.mono ?_
          rintro e w4 ⟨rfl, hk4⟩
          have HK4 := hide (HK3.out.then hk4)
          have HIg4 := hide (HIg.out.non hk4)
          clear hk4 HO2
          have HE := equal_any a1 xs.length c1 xs a xs.length cap xs w4 (HI2.out.non HK4.out) (HX.out.non (HK2.out.then HK4.out))
          rw [decide_eq_true rfl] at HE
          have HE1 := hide HE
          clear HE
          go_wp2_with fail
          refine HE1.out.mono ?_
          rintro e w5 ⟨rfl, hk5⟩
          have HK5 := hide (HK4.out.then hk5)
          have HIg5 := hide (HIg4.out.non hk5)
          clear hk5 HE1
          have HE := equal_str b1 m d1 ys b m cap2 ys w5 (HS.out.non HK5.out) (HY.out.non (HK2.out.then HK5.out))
          rw [decide_eq_true rfl] at HE
          have HE1 := hide HE
          clear HE
          go_wp2_with fail
          refine HE1.out.mono ?_
          rintro e w6 ⟨rfl, hk6⟩
          have HK6 := hide (HK5.out.then hk6)
          have HIg6 := hide (HIg5.out.non hk6)
          clear hk6 HE1
          have HR := hide (intsR_l a xs.length cap xs w6 (HX.out.non (HK2.out.then HK6.out)) (by omega))
          go_wp2_with fail
          refine HR.out.mono ?_
          rintro e w7 ⟨_, rfl, a7, c7, rfl, hI7, hk7⟩
          rw [numb_length] at hI7 ⊢
          have HI7 := hide hI7
          have HK7 := hide (HK6.out.then hk7)
          have HIg7 := hide (HIg6.out.non hk7)
          clear hI7 hk7 HR
          have HE := equal_any _ xs.length xs.length _ a7 xs.length c7 _ w7 HIg7.out HI7.out
          rw [decide_eq_true rfl] at HE
          have HE1 := hide HE
          clear HE
          go_wp2_with fail
          refine HE1.out.mono ?_
          rintro e w8 ⟨rfl, hk8⟩
          have HK8 := hide (HK7.out.then hk8)
          clear hk8 HE1
          go_wp2_with fail
          refine (HA.out w8).mono ?_
          rintro e w11 ⟨rfl, hk11⟩
          go_wp2_with fail
          go_ret
          exact ⟨rfl, HK2.out.then (HK8.out.then hk11)⟩
      · rcases m2 with m3 | m3
        · have i1 : (1024 : Int) < (xs.length : Int) := by omega
          have HO := hide (ofInt_many a1 xs.length c1 w2 (by omega))
          go_wp2_with fail
          refine HO.out.mono ?_
          rintro e w3 ⟨rfl, hk3⟩
          have HK3 := hide hk3
          clear hk3 HO
          have j1 : ¬ (1024 : Int) < (m : Int) := by omega
          have HO2 := hide (ofStr_l b1 m d1 ys w3 (HS.out.non HK3.out) (by omega) HW.out)
          go_wp2_with fail
          refine HO2.out.mono ?_
          rintro e w4 ⟨g2, rfl, hg2, hB2, hk4⟩
          have hIt := ints_of_blk hB2 (by have := HY.out.len; rw [numb_length]; simp; omega)
          have hnl : (numb [] (ys.map tl)).length = m := by rw [numb_length, List.length_map, HY.out.len]
          rw [hnl] at hIt
          have HIt := hide hIt
          clear hIt hB2 hg2 hnl
          have HK4 := hide (HK3.out.then hk4)
          clear hk4 HO2
          have HE := equal_any a1 xs.length c1 xs a xs.length cap xs w4 (HI2.out.non HK4.out) (HX.out.non (HK2.out.then HK4.out))
          rw [decide_eq_true rfl] at HE
          have HE1 := hide HE
          clear HE
          go_wp2_with fail
          refine HE1.out.mono ?_
          rintro e w5 ⟨rfl, hk5⟩
          have HK5 := hide (HK4.out.then hk5)
          have HIt5 := hide (HIt.out.non hk5)
          clear hk5 HE1
          have HE := equal_str b1 m d1 ys b m cap2 ys w5 (HS.out.non HK5.out) (HY.out.non (HK2.out.then HK5.out))
          rw [decide_eq_true rfl] at HE
          have HE1 := hide HE
          clear HE
          go_wp2_with fail
          refine HE1.out.mono ?_
          rintro e w6 ⟨rfl, hk6⟩
          have HK6 := hide (HK5.out.then hk6)
          have HIt6 := hide (HIt5.out.non hk6)
          clear hk6 HE1
          have HR := hide (textsR_l b m cap2 ys w6 (HY.out.non (HK2.out.then HK6.out)) (by omega))
          go_wp2_with fail
          refine HR.out.mono ?_
          rintro e w9 ⟨_, rfl, a9, c9, rfl, hI9, hk9⟩
          have hnl : (numb [] (ys.map tl)).length = m := by rw [numb_length, List.length_map, HY.out.len]
          rw [hnl] at hI9 ⊢
          have HI9 := hide hI9
          have HK9 := hide (HK6.out.then hk9)
          have HIt9 := hide (HIt6.out.non hk9)
          clear hI9 hk9 HR hnl
          have HE := equal_any _ m m _ a9 m c9 _ w9 HIt9.out HI9.out
          rw [decide_eq_true rfl] at HE
          have HE1 := hide HE
          clear HE
          go_wp2_with fail
          refine HE1.out.mono ?_
          rintro e w10 ⟨rfl, hk10⟩
          have HK10 := hide (HK9.out.then hk10)
          clear hk10 HE1
          go_wp2_with fail
          refine (HA.out w10).mono ?_
          rintro e w11 ⟨rfl, hk11⟩
          go_wp2_with fail
          go_ret
          exact ⟨rfl, HK2.out.then (HK10.out.then hk11)⟩
        · have i1 : (1024 : Int) < (xs.length : Int) := by omega
          have HO := hide (ofInt_many a1 xs.length c1 w2 (by omega))
          go_wp2_with fail
          refine HO.out.mono ?_
          rintro e w3 ⟨rfl, hk3⟩
          have HK3 := hide hk3
          clear hk3 HO
          have j1 : (1024 : Int) < (m : Int) := by omega
          have HO2 := hide (ofStr_many b1 m d1 w3 (by omega))
          go_wp2_with fail
          refine HO2.out.mono ?_
          rintro e w4 ⟨rfl, hk4⟩
          have HK4 := hide (HK3.out.then hk4)
          clear hk4 HO2
          have HE := equal_any a1 xs.length c1 xs a xs.length cap xs w4 (HI2.out.non HK4.out) (HX.out.non (HK2.out.then HK4.out))
          rw [decide_eq_true rfl] at HE
          have HE1 := hide HE
          clear HE
          go_wp2_with fail
          refine HE1.out.mono ?_
          rintro e w5 ⟨rfl, hk5⟩
          have HK5 := hide (HK4.out.then hk5)
          clear hk5 HE1
          have HE := equal_str b1 m d1 ys b m cap2 ys w5 (HS.out.non HK5.out) (HY.out.non (HK2.out.then HK5.out))
          rw [decide_eq_true rfl] at HE
          have HE1 := hide HE
          clear HE
          go_wp2_with fail
          refine HE1.out.mono ?_
          rintro e w6 ⟨rfl, hk6⟩
          have HK6 := hide (HK5.out.then hk6)
          clear hk6 HE1
          go_wp2_with fail
          refine (HA.out w6).mono ?_
          rintro e w11 ⟨rfl, hk11⟩
          go_wp2_with fail
          go_ret
          exact ⟨rfl, HK2.out.then (HK6.out.then hk11)⟩
end Go.Proofs.Ytkcbahfmdokalaa
