/-
  The walk over BlocksMembers. No condition beyond the row's own.
-/
import Derived.Test.YtkcbahfmdokalaaLq
import Derived.Test.YtkcbahfmdokalaaLc
import Derived.Test.YtkcbahfmdokalaaPm
import Derived.Test.YtkcbahfmdokalaaOp
namespace Go.Proofs.Ytkcbahfmdokalaa
open Go.RowKit
attribute [local go_sem] onto_cell onto_frozen
set_option linter.unusedVariables false
theorem members_c {n : Nat} {p : List Int} {w : World} {a : Option Addr} {cap : Nat} (h : Ints w a n p) (hp : Pt n p) (hn : n ≤ 1024) (k : Nat) (hk : cnt p = k) :
    Calls Try.prog 36 #[.slice a n cap] w fun e w' => ∃ g, e = .returned (.tuple #[.slice (some ⟨g, 0, none⟩) k k, .int .i64 0]) ∧ Rows w' (some ⟨g, 0, none⟩) k (membersL p) ∧ Keeps Non w w' :=
  (members_yes a n cap p w h (pt_good hp hn) (pt_right hp hn)).mono fun e w' ⟨v, h1, h2⟩ => by
    obtain ⟨B, S, rfl, _, h3, h4⟩ := h2
    have hl : (membersL p).length = k := by rw [membersL, memAt_length, hk]
    have hc := cnt_le_length p
    rw [hp.len] at hc
    have hR := h3.rows (by omega) (fun i => by
      have := memAt_short p p.length i
      rw [hp.len] at this
      show (List.getD (memAt p p.length) i []).length ≤ _
      rw [hp.len]
      omega)
    rw [hl] at h1 hR
    exact ⟨B, h1, hR, h4⟩
set_option maxRecDepth 100000 in
set_option maxHeartbeats 16000000 in
theorem law_members (a b0 : Option Addr) (n1 d1 n2 d2 : Nat) (xs ks : List Int) (w : World) (h1 : BySl w a n1 d1 xs) (h2 : RawI w b0 n2 ks) (hr2 : n2 ≤ d2 ∧ d2 ≤ 9223372036854775807) (hz2 : b0 = none → d2 = 0) :
    Calls Try.prog 9 #[.slice a n1 d1, .slice b0 n2 d2] w fun e w' => e = .returned (.bool true) ∧ Keeps Non w w' := by
  obtain ⟨m, hm⟩ : ∃ m, min 30 n1 = m := ⟨_, rfl⟩
  obtain ⟨r1, r2⟩ := hr2
  have HT := hide (made_c a n1 d1 m xs w h1 hm)
  have P1 : Hid (Pt m (madeL xs)) := pt_madeL (by rw [h1.by'.len]; exact hm)
  have hm31 : m ≤ 1024 := by omega
  have hm30 : m ≤ 30 := by omega
  obtain ⟨m2, hm2⟩ : ∃ m2, min n2 60 = m2 := ⟨_, rfl⟩
  have hm60 : m2 ≤ 60 := by omega
  have hmn : m2 ≤ n2 := by omega
  have hmd : m2 ≤ d2 := by omega
  have IK : Hid (Ints w b0 m2 (ks.take m2)) := ⟨by rw [List.length_take, h2.len]; omega, by omega, h2.cell.elim (fun h => .inl (by omega)) fun ⟨b, off, ha, hb, hc⟩ => .inr ⟨b, off, ha, hb, fun i hi => by rw [hc i (by omega), take_pre hi]⟩⟩
  have HGk : Hid (Good (ks.take m2)) := fun x hx => h2.good x (List.mem_of_mem_take hx)
  have P2 : Hid (Pt m2 (numb [] (ks.take m2))) := ⟨by rw [numb_length, List.length_take, h2.len]; omega, isP_numb _⟩
  have HNz := hide hz2
  have HM2 := hide hm2
  obtain ⟨kl, hkl⟩ : ∃ l, ks.take m2 = l := ⟨_, rfl⟩
  rw [hkl] at IK HGk P2
  have HKl : Hid (kl.length = m2) := IK.out.len
  clear h1 h2 hm hm2 hz2 hkl
  go_enter Try.func9, Try.ntmps9
  go_wp2_with fail
  refine HT.out.mono ?_
  rintro e x0 ⟨a1, c1, rfl, i1, k0⟩
  obtain ⟨p, hp⟩ : ∃ p, madeL xs = p := ⟨_, rfl⟩
  rw [hp] at i1 P1
  replace IK := hide (IK.out.non k0)
  have Ip := hide i1
  have HK := hide k0
  obtain ⟨kq, hkq⟩ : ∃ kq, cnt p = kq := ⟨_, rfl⟩
  have HKq := hide hkq
  have hkm : kq ≤ 30 := by
    have := cnt_le_length p
    rw [P1.out.len] at this
    omega
  clear HT hp i1 k0 hkq
  have C1 := hide (members_c (cap := c1) Ip.out P1.out hm31 kq HKq.out)
  go_wp2_with fail
  refine C1.out.mono ?_
  rintro e x1 ⟨g1, rfl, hR, hk1⟩
  replace Ip := hide (Ip.out.non hk1)
  replace IK := hide (IK.out.non hk1)
  have Rm := hide hR
  replace HK := hide (HK.out.then hk1)
  clear hk1 C1 hR
  have C2 := hide (count_c (cap := c1) Ip.out P1.out hm31 kq HKq.out)
  go_wp2_with fail
  refine C2.out.mono ?_
  rintro e x2 ⟨rfl, hk2⟩
  replace Ip := hide (Ip.out.non hk2)
  replace IK := hide (IK.out.non hk2)
  replace Rm := hide (Rm.out.non hk2)
  replace HK := hide (HK.out.then hk2)
  clear hk2 C2
  have C3 := hide (ofInt_c (cap := c1) Ip.out hm31 (pt_good P1.out hm31))
  go_wp2_with fail
  refine C3.out.mono ?_
  rintro e x3 ⟨g2, rfl, hI, hk3⟩
  replace Ip := hide (Ip.out.non hk3)
  replace IK := hide (IK.out.non hk3)
  replace Rm := hide (Rm.out.non hk3)
  have Io := hide hI
  replace HK := hide (HK.out.then hk3)
  clear hk3 C3 hI
  have C4 := hide (equal_c (cap := m) (cap2 := c1) Io.out Ip.out true (decide_eq_true P1.out.isP))
  go_wp2_with fail
  refine C4.out.mono ?_
  rintro e x4 ⟨rfl, hk4⟩
  replace Ip := hide (Ip.out.non hk4)
  replace IK := hide (IK.out.non hk4)
  replace Rm := hide (Rm.out.non hk4)
  replace Io := hide (Io.out.non hk4)
  replace HK := hide (HK.out.then hk4)
  clear hk4 C4
  have C5 := hide (right_c (cap := c1) Ip.out P1.out hm31)
  go_wp2_with fail
  refine C5.out.mono ?_
  rintro e x5 ⟨rfl, hk5⟩
  replace Ip := hide (Ip.out.non hk5)
  replace IK := hide (IK.out.non hk5)
  replace Rm := hide (Rm.out.non hk5)
  replace Io := hide (Io.out.non hk5)
  replace HK := hide (HK.out.then hk5)
  clear hk5 C5
  go_wp2_with fail
  go_loopw [63, 12] (fun t s wr => ∃ (b : Nat), b ≤ kq ∧ t = .int .i64 b ∧ s = .int .i64 (sumM p b) ∧ Hid (Keeps Non x5 wr)) (fun t _ _ => kq - (intOf t).toNat)
  case atStart => exact ⟨0, by omega, rfl, rfl, Keeps.refl _ _⟩
  case round =>
    obtain ⟨b, hb, rfl, rfl, HKr⟩ := hrel
    by_cases hlt : b < kq
    · have hRr := (Rm.out.non HKr.out)
      obtain ⟨bm, om, hbme, hbm, hcm⟩ := hRr.at (by omega)
      cases hbme
      obtain ⟨ai, ci, l2, hI⟩ := hcm b hlt
      have hrow := membersL_at (p := p) (b := b) (by rw [HKq.out]; exact hlt)
      have hpos := rowM_pos P1.out (b := b) (by rw [HKq.out]; exact hlt)
      have hsum : sumM p (b + 1) = sumM p b + (rowM p b).length := rfl
      have hsl := sumM_le P1.out (b := b + 1) (by rw [HKq.out]; omega)
      rw [hrow] at l2 hI
      rw [Nat.zero_add] at l2
      have hbef : ∀ bb, b = bb + 1 → (rowM p bb).getD 0 0 < (rowM p b).getD 0 0 := fun bb e => by
        subst e
        exact rowM_first P1.out (by rw [HKq.out]; exact hlt)
      have hbrow : ∀ bb, b = bb + 1 → ∃ aj cj, wr.cell? ⟨g1, bb, none⟩ = some (.slice aj (rowM p bb).length cj) ∧ Ints wr aj (rowM p bb).length (rowM p bb) ∧ 0 < (rowM p bb).length := fun bb e => by
        obtain ⟨aj, cj, l5, hI5⟩ := hcm bb (by omega)
        have hr := membersL_at (p := p) (b := bb) (by rw [HKq.out]; omega)
        rw [hr, Nat.zero_add] at l5
        rw [hr] at hI5
        exact ⟨aj, cj, l5, hI5, rowM_pos P1.out (by rw [HKq.out]; omega)⟩
      have HMem : Hid (∀ j, j < (rowM p b).length → ∃ u : Nat, u < m ∧ (rowM p b).getD j 0 = u ∧ p.getD u 0 = b) := fun j hj => by
        obtain ⟨u, h1, h2, h3⟩ := rowM_mem.1 (getD_mem (d := 0) hj)
        exact ⟨u, by rw [← P1.out.len]; exact h1, h2, h3⟩
      have HSo : Hid (∀ i j, i < j → j < (rowM p b).length → (rowM p b).getD i 0 < (rowM p b).getD j 0) := fun i j h hj => rowM_lt h hj
      obtain ⟨ll, hll⟩ : ∃ ll, (rowM p b).length = ll := ⟨_, rfl⟩
      obtain ⟨rw', hrw⟩ : ∃ r, rowM p b = r := ⟨_, rfl⟩
      obtain ⟨sb, hsb⟩ : ∃ s, sumM p b = s := ⟨_, rfl⟩
      rw [hll] at l2 hI hpos hsum HMem HSo
      rw [hrw] at hI HMem HSo hbef
      rw [hsb] at hsum ⊢
      have HSum := hide hsum
      have hsle : sb + ll ≤ 30 := by omega
      have HSl := hide hsle
      have HI := hide hI
      have b0 : (0 : Int) ≤ (b : Int) := by omega
      have b1 : (b : Int) < (kq : Int) := by omega
      have e0 : ¬ (ll : Int) = 0 := by omega
      have e00 : ((ll : Int) == 0) = false := by simpa using e0
      have e01 : decide ((ll : Int) = 0) = false := by simpa using e0
      have e02 : ¬ ll = 0 := by omega
      clear hcm hrow hsl hRr hI hll hrw hsb hsum
      have key : ∀ w2, Keeps Non wr w2 → Hid (Keeps Non x5 w2) := fun w2 h => HKr.out.then h
      obtain ⟨w0, hw0⟩ : ∃ w0, wr = w0 := ⟨_, rfl⟩
      have HW0 := hide hw0
      obtain ⟨bi, oi, rfl, hbi, hci⟩ := HI.out.at (by omega)
      have lx := hci 0 hpos
      obtain ⟨x0', hx0⟩ : ∃ x, rw'.getD 0 0 = x := ⟨_, rfl⟩
      rw [hx0] at lx hbef
      rw [Nat.add_zero] at lx
      clear hci hw0 hx0
      rcases Nat.eq_zero_or_pos b with hb0 | hb0
      case' inr =>
        obtain ⟨bb, rfl⟩ : ∃ bb, b = bb + 1 := ⟨b - 1, by omega⟩
        obtain ⟨aj, cj, l5, hI5, hp5⟩ := hbrow bb rfl
        have hb5 := hbef bb rfl
        obtain ⟨bj, oj, rfl, hbj, hcj⟩ := hI5.at hp5
        have ly := hcj 0 hp5
        obtain ⟨l5l, hl5l⟩ : ∃ l, (rowM p bb).length = l := ⟨_, rfl⟩
        obtain ⟨y5, hy5⟩ : ∃ l, (rowM p bb).getD 0 0 = l := ⟨_, rfl⟩
        rw [hl5l] at l5 hp5
        rw [hy5] at hb5 ly
        rw [Nat.add_zero] at ly
        have p5 : (0 : Int) < (l5l : Int) := by omega
        have q5 : ¬ x0' ≤ y5 := by omega
        have q6 : decide (x0' ≤ y5) = false := by simp; omega
        have g5 : decide ((0 : Int) < (bb : Int) + 1) = true := by simp <;> omega
        have g6 : IntKind.i64.wrap ((bb : Int) + 1 - 1) = (bb : Int) := by
          have := IntWalk.i64_in ((bb : Int) + 1 - 1) (by omega)
          omega
        have g7 : (0 : Int) ≤ (bb : Int) := by omega
        have g8 : (bb : Int) < (kq : Int) := by omega
        have g9 : (bb : Int) + 1 - 1 = (bb : Int) := by omega
        clear hI5 hcj hl5l hy5 hbrow hbef hb0
      case' inl =>
        subst hb0
        have ez : ((0 : Nat) : Int) = 0 := rfl
        rw [ez]
        clear hbrow hbef ez
      case' inr =>
        clear hsle
        go_wp2_with fail
        refine wp_region_onto (by kernel_rfl) (by kernel_rfl) ?_
        try simp only [List.append_eq, List.cons_append, List.nil_append]
        repeat (go_big_quiet_step (fail))
        refine wpQuiet_nil ?_
        rintro _ ⟨u0, rfl⟩
        have KO := hide (onto_keeps wr u0)
        clear lx
        try clear l5 ly
        go_wp2_with fail
        go_loopw [99, 12] (fun t s wi => ∃ (j : Nat), j ≤ ll ∧ t = .int .i64 j ∧ s = .int .i64 ((sb + j : Nat) : Int) ∧ Hid (Keeps Non w0 wi)) (fun t _ _ => ll - (intOf t).toNat)
        case atStart => exact ⟨0, by omega, rfl, rfl, by show Keeps Non _ _; rw [← HW0.out]; exact KO.out⟩
        case round =>
          rw [HW0.out] at HI KO HKr
          obtain ⟨j, hj, rfl, rfl, HKi⟩ := hrel
          by_cases hlj : j < ll
          · obtain ⟨bq, oq, hbqe, hbq, hcq⟩ := (HI.out.non HKi.out).at (by omega)
            cases hbqe
            have lq := hcq j hlj
            obtain ⟨u, hum, hue, hup⟩ := HMem.out j hlj
            have hso := fun i h => HSo.out i j h hlj
            rw [hue] at lq hso
            obtain ⟨bp, op', rfl, hbp, hcp⟩ := (Ip.out.non (HKr.out.then HKi.out)).at (by omega)
            have lp := hcp u hum
            rw [hup] at lp
            have j0 : (0 : Int) ≤ (j : Int) := by omega
            have j1 : (j : Int) < (ll : Int) := by omega
            have u1 : (0 : Int) ≤ (u : Int) := by omega
            have u2 : (u : Int) < (m : Int) := by omega
            have u3 : decide ((m : Int) ≤ (u : Int)) = false := by simp; omega
            clear hue hup
            rcases Nat.eq_zero_or_pos j with hj0 | hj0
            · subst hj0
              rw [Nat.add_zero] at lq
              have ez : ((0 : Nat) : Int) = 0 := rfl
              rw [Nat.add_zero, ez]
              have hsq : sb ≤ 30 := by have := HSl.out; omega
              clear hcq hcp hso ez
              go_wp2_with fail
              go_roundw
              case rel => exact ⟨1, by omega, by go_num, by go_num, HKi.out⟩
              case measure => simp [intOf]; omega
            · obtain ⟨jj, rfl⟩ : ∃ jj, j = jj + 1 := ⟨j - 1, by omega⟩
              have lq2 := hcq jj (by omega)
              have hlt2 := hso jj (by omega)
              obtain ⟨y, hy⟩ : ∃ y, rw'.getD jj 0 = y := ⟨_, rfl⟩
              rw [hy] at lq2 hlt2
              have q5 : ¬ (u : Int) ≤ y := by omega
              have hsq : sb + (jj + 1) ≤ 30 := by have := HSl.out; omega
              have q6 : decide ((u : Int) ≤ y) = false := by simp; omega
              have g5 : decide ((0 : Int) < (jj : Int) + 1) = true := by simp <;> omega
              have g6 : IntKind.i64.wrap ((jj : Int) + 1 - 1) = (jj : Int) := by
                have := IntWalk.i64_in ((jj : Int) + 1 - 1) (by omega)
                omega
              have g7 : (0 : Int) ≤ (jj : Int) := by omega
              have g8 : (jj : Int) < (ll : Int) := by omega
              have g9 : (jj : Int) + 1 - 1 = (jj : Int) := by omega
              clear hcq hcp hso hy hj0
              go_wp2_with fail
              go_roundw
              case rel => exact ⟨jj + 1 + 1, by omega, by go_num, by go_num, HKi.out⟩
              case measure => simp [intOf]; omega
          · obtain rfl : ll = j := by omega
            have y9 : ¬ (ll : Int) < (ll : Int) := by omega
            have hsn : sb + ll = sumM p (bb + 1 + 1) := by
              have := HSum.out
              omega
            go_wp2_with fail
            go_roundw
            case rel => exact ⟨bb + 1 + 1, by omega, by go_num, by rw [hsn], HKr.out.then HKi.out⟩
            case measure => simp [intOf]; omega
      case' inl =>
        clear hsle
        go_wp2_with fail
        refine wp_region_onto (by kernel_rfl) (by kernel_rfl) ?_
        try simp only [List.append_eq, List.cons_append, List.nil_append]
        repeat (go_big_quiet_step (fail))
        refine wpQuiet_nil ?_
        rintro _ ⟨u0, rfl⟩
        have KO := hide (onto_keeps wr u0)
        clear lx
        try clear l5 ly
        go_wp2_with fail
        go_loopw [99, 12] (fun t s wi => ∃ (j : Nat), j ≤ ll ∧ t = .int .i64 j ∧ s = .int .i64 ((sb + j : Nat) : Int) ∧ Hid (Keeps Non w0 wi)) (fun t _ _ => ll - (intOf t).toNat)
        case atStart => exact ⟨0, by omega, rfl, rfl, by show Keeps Non _ _; rw [← HW0.out]; exact KO.out⟩
        case round =>
          rw [HW0.out] at HI KO HKr
          obtain ⟨j, hj, rfl, rfl, HKi⟩ := hrel
          by_cases hlj : j < ll
          · obtain ⟨bq, oq, hbqe, hbq, hcq⟩ := (HI.out.non HKi.out).at (by omega)
            cases hbqe
            have lq := hcq j hlj
            obtain ⟨u, hum, hue, hup⟩ := HMem.out j hlj
            have hso := fun i h => HSo.out i j h hlj
            rw [hue] at lq hso
            obtain ⟨bp, op', rfl, hbp, hcp⟩ := (Ip.out.non (HKr.out.then HKi.out)).at (by omega)
            have lp := hcp u hum
            rw [hup] at lp
            have j0 : (0 : Int) ≤ (j : Int) := by omega
            have j1 : (j : Int) < (ll : Int) := by omega
            have u1 : (0 : Int) ≤ (u : Int) := by omega
            have u2 : (u : Int) < (m : Int) := by omega
            have u3 : decide ((m : Int) ≤ (u : Int)) = false := by simp; omega
            clear hue hup
            rcases Nat.eq_zero_or_pos j with hj0 | hj0
            · subst hj0
              rw [Nat.add_zero] at lq
              have ez : ((0 : Nat) : Int) = 0 := rfl
              rw [Nat.add_zero, ez]
              have hsq : sb ≤ 30 := by have := HSl.out; omega
              clear hcq hcp hso ez
              go_wp2_with fail
              go_roundw
              case rel => exact ⟨1, by omega, by go_num, by go_num, HKi.out⟩
              case measure => simp [intOf]; omega
            · obtain ⟨jj, rfl⟩ : ∃ jj, j = jj + 1 := ⟨j - 1, by omega⟩
              have lq2 := hcq jj (by omega)
              have hlt2 := hso jj (by omega)
              obtain ⟨y, hy⟩ : ∃ y, rw'.getD jj 0 = y := ⟨_, rfl⟩
              rw [hy] at lq2 hlt2
              have q5 : ¬ (u : Int) ≤ y := by omega
              have hsq : sb + (jj + 1) ≤ 30 := by have := HSl.out; omega
              have q6 : decide ((u : Int) ≤ y) = false := by simp; omega
              have g5 : decide ((0 : Int) < (jj : Int) + 1) = true := by simp <;> omega
              have g6 : IntKind.i64.wrap ((jj : Int) + 1 - 1) = (jj : Int) := by
                have := IntWalk.i64_in ((jj : Int) + 1 - 1) (by omega)
                omega
              have g7 : (0 : Int) ≤ (jj : Int) := by omega
              have g8 : (jj : Int) < (ll : Int) := by omega
              have g9 : (jj : Int) + 1 - 1 = (jj : Int) := by omega
              clear hcq hcp hso hy hj0
              go_wp2_with fail
              go_roundw
              case rel => exact ⟨jj + 1 + 1, by omega, by go_num, by go_num, HKi.out⟩
              case measure => simp [intOf]; omega
          · obtain rfl : ll = j := by omega
            have y9 : ¬ (ll : Int) < (ll : Int) := by omega
            have hsn : sb + ll = sumM p (0 + 1) := by
              have := HSum.out
              omega
            go_wp2_with fail
            go_roundw
            case rel => exact ⟨0 + 1, by omega, by go_num, by rw [hsn], HKr.out.then HKi.out⟩
            case measure => simp [intOf]; omega
    · obtain rfl : kq = b := by omega
      have hsa := sumM_all P1.out
      rw [HKq.out] at hsa
      rw [hsa]
      have y9 : ¬ (kq : Int) < (kq : Int) := by omega
      replace IK := hide (IK.out.non HKr.out)
      replace HK := hide (HK.out.then HKr.out)
      clear hsa Rm Io Ip HKr
      have hmt : (min (n2 : Int) 60).toNat = m2 := by have := HM2.out; omega
      have C21 := hide (ofInt_c (cap := d2) IK.out (by omega) HGk.out)
      go_wp2_with fail
      refine C21.out.mono ?_
      rintro e x21 ⟨g3, rfl, hI, hk21⟩
      replace IK := hide (IK.out.non hk21)
      have Iq := hide hI
      replace HK := hide (HK.out.then hk21)
      clear hk21 C21 hI
      have C22 := hide (right_c (cap := m2) Iq.out P2.out (by omega))
      go_wp2_with fail
      refine C22.out.mono ?_
      rintro e x22 ⟨rfl, hk22⟩
      replace IK := hide (IK.out.non hk22)
      replace Iq := hide (Iq.out.non hk22)
      replace HK := hide (HK.out.then hk22)
      clear hk22 C22
      go_wp2_with fail
      go_loopw [169] (fun t wr => ∃ (i : Nat), i ≤ m2 ∧ t = .int .i64 i ∧ Hid (Keeps Non x22 wr)) (fun t _ => m2 - (intOf t).toNat)
      case atStart => exact ⟨0, by omega, rfl, Keeps.refl _ _⟩
      case round =>
        obtain ⟨i, hi, rfl, HKr⟩ := hrel
        by_cases hlt : i < m2
        · have i0 : (0 : Int) ≤ (i : Int) := by omega
          have i1 : (i : Int) < (m2 : Int) := by omega
          obtain ⟨w0, hw0⟩ : ∃ w0, wr = w0 := ⟨_, rfl⟩
          have HW0 := hide hw0
          clear hw0
          go_wp2_with fail
          go_loopw [173] (fun t wi => ∃ (k : Nat), k ≤ i ∧ t = .int .i64 k ∧ Hid (Keeps Non w0 wi)) (fun t _ => i - (intOf t).toNat)
          case atStart => exact ⟨0, by omega, rfl, by show Keeps Non _ _; rw [← HW0.out]; exact Keeps.refl _ _⟩
          case round =>
            rw [HW0.out] at HKr
            obtain ⟨k, hk, rfl, HKi⟩ := hrel
            by_cases hki : k < i
            · obtain ⟨b5, o5, rfl, hb5, hc5⟩ := (IK.out.non (HKr.out.then HKi.out)).at (by omega)
              obtain ⟨b6, o6, hbe, hb6, hc6⟩ := (Iq.out.non (HKr.out.then HKi.out)).at (by omega)
              cases hbe
              have l1 := hc5 i hlt
              have l2 := hc5 k (by omega)
              have l3 := hc6 i hlt
              have l4 := hc6 k (by omega)
              rw [Nat.zero_add] at l3 l4
              have hker := num_ker kl (i := i) (j := k) (by rw [HKl.out]; omega) (by rw [HKl.out]; omega)
              obtain ⟨x, hx⟩ : ∃ x, kl.getD i 0 = x := ⟨_, rfl⟩
              obtain ⟨y, hy⟩ : ∃ x, kl.getD k 0 = x := ⟨_, rfl⟩
              obtain ⟨u, hu⟩ : ∃ x, (numb [] kl).getD i 0 = x := ⟨_, rfl⟩
              obtain ⟨v, hv⟩ : ∃ x, (numb [] kl).getD k 0 = x := ⟨_, rfl⟩
              rw [hx] at l1 hker
              rw [hy] at l2 hker
              rw [hu] at l3 hker
              rw [hv] at l4 hker
              have k0 : (0 : Int) ≤ (k : Int) := by omega
              have k1 : (k : Int) < (i : Int) := by omega
              have k2 : (k : Int) < (m2 : Int) := by omega
              clear hc5 hc6 hx hy hu hv
              by_cases hxy : x = y
              · obtain rfl : u = v := hker.2 hxy
                subst hxy
                clear hker
                go_wp2_with fail
                go_region
                all_goals
                  go_wp2_with fail
                  go_roundw
                  case rel => exact ⟨k + 1, by omega, by go_num, HKi.out.drew⟩
                  case measure => simp [intOf]; omega
              · have huv : ¬ u = v := fun h => hxy (hker.1 h)
                have t1 : (x == y) = false := by simpa using hxy
                have t2 : (u == v) = false := by simpa using huv
                clear hker
                go_wp2_with fail
                go_region
                all_goals
                  go_wp2_with fail
                  go_roundw
                  case rel => exact ⟨k + 1, by omega, by go_num, HKi.out.drew⟩
                  case measure => simp [intOf]; omega
            · obtain rfl : i = k := by omega
              have y8 : ¬ (i : Int) < (i : Int) := by omega
              go_wp2_with fail
              go_roundw
              case rel => exact ⟨i + 1, by omega, by go_num, HKr.out.then HKi.out⟩
              case measure => simp [intOf]; omega
        · obtain rfl : m2 = i := by omega
          have y7 : ¬ (m2 : Int) < (m2 : Int) := by omega
          have HA := hide (awake_l wr)
          go_wp2_with fail
          refine HA.out.mono ?_
          rintro e w9 ⟨rfl, hk9⟩
          go_wp2_with fail
          go_ret
          exact ⟨rfl, (HK.out.then HKr.out).then hk9⟩
end Go.Proofs.Ytkcbahfmdokalaa
