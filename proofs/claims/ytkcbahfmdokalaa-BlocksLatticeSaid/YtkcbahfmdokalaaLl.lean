/-
  The walk over BlocksLattice. No condition beyond the row's own.
-/
import Derived.Test.YtkcbahfmdokalaaCt
import Derived.Deep.DeepCutAuto
namespace Go.Proofs.Ytkcbahfmdokalaa
open Go.RowKit
attribute [local go_sem] onto_cell onto_frozen
set_option linter.unusedVariables false
/-- Three partitions that were made. -/
def ThreeP (w : World) (m : Nat) (xs ys zs : List Int) (s8 s9 s10 : Value) (wx : World) : Prop := ∃ a1 c1 a2 c2 a3 c3, s8 = .slice a1 m c1 ∧ s9 = .slice a2 m c2 ∧ s10 = .slice a3 m c3 ∧ Ints wx a1 m (madeL (xs.take m)) ∧ Ints wx a2 m (madeL (ys.take m)) ∧ Ints wx a3 m (madeL (zs.take m)) ∧ Keeps Non w wx
set_option maxRecDepth 100000 in
set_option maxHeartbeats 16000000 in
theorem law_lattice (a b c : Option Addr) (n1 d1 n2 d2 n3 d3 : Nat) (xs ys zs : List Int) (w : World) (h1 : BySl w a n1 d1 xs) (h2 : BySl w b n2 d2 ys) (h3 : BySl w c n3 d3 zs) :
    Calls Try.prog 6 #[.slice a n1 d1, .slice b n2 d2, .slice c n3 d3] w fun e w' => e = .returned (.bool true) ∧ Keeps Non w w' := by
  obtain ⟨r1, r2⟩ := h1.room
  obtain ⟨s1, s2⟩ := h2.room
  obtain ⟨t1, t2⟩ := h3.room
  obtain ⟨m, hm⟩ : ∃ m, min (min (min n1 n2) n3) 30 = m := ⟨_, rfl⟩
  have HC1 : Hid (∀ w', Keeps Non w w' → Calls Try.prog 25 #[.slice a m d1] w' fun e w2 => ∃ a1 c1, e = .returned (.slice a1 m c1) ∧ Ints w2 a1 m (madeL (xs.take m)) ∧ Keeps Non w' w2) := fun w' hk => h1.made' (by omega) (by omega) hk
  have HC2 : Hid (∀ w', Keeps Non w w' → Calls Try.prog 25 #[.slice b m d2] w' fun e w2 => ∃ a1 c1, e = .returned (.slice a1 m c1) ∧ Ints w2 a1 m (madeL (ys.take m)) ∧ Keeps Non w' w2) := fun w' hk => h2.made' (by omega) (by omega) hk
  have HC3 : Hid (∀ w', Keeps Non w w' → Calls Try.prog 25 #[.slice c m d3] w' fun e w2 => ∃ a1 c1, e = .returned (.slice a1 m c1) ∧ Ints w2 a1 m (madeL (zs.take m)) ∧ Keeps Non w' w2) := fun w' hk => h3.made' (by omega) (by omega) hk
  have P1 : Hid (Pt m (madeL (xs.take m))) := pt_made (by rw [h1.by'.len]; omega) (by omega)
  have P2 : Hid (Pt m (madeL (ys.take m))) := pt_made (by rw [h2.by'.len]; omega) (by omega)
  have P3 : Hid (Pt m (madeL (zs.take m))) := pt_made (by rw [h3.by'.len]; omega) (by omega)
  have HKd := hide (Keeps.refl Non w).drew
  have hmin : (Builtin.min_ #[3, 3, 3, 3] 3 #[.int .i64 n1, .int .i64 n2, .int .i64 n3, .int .i64 30]).run Try.prog w = .ok (.int .i64 m) w := by
    have e : (if (30 : Int) < (if (n3 : Int) < (if (n2 : Int) < (n1 : Int) then (n2 : Int) else n1) then (n3 : Int) else (if (n2 : Int) < (n1 : Int) then (n2 : Int) else n1)) then (30 : Int) else (if (n3 : Int) < (if (n2 : Int) < (n1 : Int) then (n2 : Int) else n1) then (n3 : Int) else (if (n2 : Int) < (n1 : Int) then (n2 : Int) else n1))) = (m : Int) := by
      (repeat' split) <;> omega
    rw [← e]
    simp [Builtin.min_, Builtin.min2]
  have hm0 : (0 : Int) ≤ (m : Int) := by omega
  have u1 : m ≤ d1 := by omega
  have u2 : m ≤ d2 := by omega
  have u3 : m ≤ d3 := by omega
  have hm30 : m ≤ 1024 := by omega
  clear h1 h2 h3 hm
  go_enter Try.func6, Try.ntmps6
  go_upto_region 2 with fail
  go_cut [8, 9, 10] (fun s8 s9 s10 wx => ThreeP w m xs ys zs s8 s9 s10 wx)
  case first =>
    go_region_with (first | ((with_reducible refine (HC1.out _ (by first | exact HKd.out | exact HKd.out.then k2 | exact HKd.out.then k3 | exact HKd.out.then (k2.then k3) | exact HKd.out.then (k3.then k2))).mono ?_); rintro e w1 ⟨a1, c1, rfl, i1, k1⟩) | ((with_reducible refine (HC2.out _ (by first | exact HKd.out | exact HKd.out.then k1 | exact HKd.out.then k3 | exact HKd.out.then (k1.then k3) | exact HKd.out.then (k3.then k1))).mono ?_); rintro e w2 ⟨a2, c2, rfl, i2, k2⟩) | ((with_reducible refine (HC3.out _ (by first | exact HKd.out | exact HKd.out.then k1 | exact HKd.out.then k2 | exact HKd.out.then (k1.then k2) | exact HKd.out.then (k2.then k1))).mono ?_); rintro e w3 ⟨a3, c3, rfl, i3, k3⟩))
    all_goals
      go_wp2_with fail
      go_meet
      first | exact ⟨a1, c1, a2, c2, a3, c3, rfl, rfl, rfl, (i1.non k2).non k3, i2.non k3, i3, HKd.out.then ((k1.then k2).then k3)⟩ | exact ⟨a1, c1, a2, c2, a3, c3, rfl, rfl, rfl, (i1.non k3).non k2, i2, i3.non k2, HKd.out.then ((k1.then k3).then k2)⟩ | exact ⟨a1, c1, a2, c2, a3, c3, rfl, rfl, rfl, i1.non k3, (i2.non k1).non k3, i3, HKd.out.then ((k2.then k1).then k3)⟩ | exact ⟨a1, c1, a2, c2, a3, c3, rfl, rfl, rfl, i1, (i2.non k3).non k1, i3.non k1, HKd.out.then ((k2.then k3).then k1)⟩ | exact ⟨a1, c1, a2, c2, a3, c3, rfl, rfl, rfl, i1.non k2, i2, (i3.non k1).non k2, HKd.out.then ((k3.then k1).then k2)⟩ | exact ⟨a1, c1, a2, c2, a3, c3, rfl, rfl, rfl, i1, i2.non k1, (i3.non k2).non k1, HKd.out.then ((k3.then k2).then k1)⟩
  case rest =>
    obtain ⟨a1, c1, a2, c2, a3, c3, rfl, rfl, rfl, i1, i2, i3, k0⟩ := hcut
    obtain ⟨p, hp⟩ : ∃ p, madeL (xs.take m) = p := ⟨_, rfl⟩
    obtain ⟨q, hq⟩ : ∃ p, madeL (ys.take m) = p := ⟨_, rfl⟩
    obtain ⟨r, hr⟩ : ∃ p, madeL (zs.take m) = p := ⟨_, rfl⟩
    rw [hp] at i1 P1
    rw [hq] at i2 P2
    rw [hr] at i3 P3
    have Ip := hide i1
    have Iq := hide i2
    have Ir := hide i3
    have HK := hide k0
    clear HC1 HC2 HC3 HKd hp hq hr i1 i2 i3 k0
    have C1 := hide (meet_c (cap := c1) (cap2 := c2) Ip.out Iq.out P1.out P2.out hm30)
    go_wp2_with fail
    refine C1.out.mono ?_
    rintro e x1 ⟨g1, rfl, hI, hk1⟩
    replace Ip := hide (Ip.out.non hk1)
    replace Iq := hide (Iq.out.non hk1)
    replace Ir := hide (Ir.out.non hk1)
    have Im := hide hI
    replace HK := hide (HK.out.then hk1)
    clear hk1 C1 hI
    have C2 := hide (meet_c (cap := c2) (cap2 := c1) Iq.out Ip.out P2.out P1.out hm30)
    go_wp2_with fail
    refine C2.out.mono ?_
    rintro e x2 ⟨g2, rfl, hI, hk2⟩
    replace Ip := hide (Ip.out.non hk2)
    replace Iq := hide (Iq.out.non hk2)
    replace Ir := hide (Ir.out.non hk2)
    replace Im := hide (Im.out.non hk2)
    have Ib := hide hI
    replace HK := hide (HK.out.then hk2)
    clear hk2 C2 hI
    have C3 := hide (join_c (cap := c1) (cap2 := c2) Ip.out Iq.out P1.out P2.out hm30)
    go_wp2_with fail
    refine C3.out.mono ?_
    rintro e x3 ⟨g3, rfl, hI, hk3⟩
    replace Ip := hide (Ip.out.non hk3)
    replace Iq := hide (Iq.out.non hk3)
    replace Ir := hide (Ir.out.non hk3)
    replace Im := hide (Im.out.non hk3)
    replace Ib := hide (Ib.out.non hk3)
    have Io := hide hI
    replace HK := hide (HK.out.then hk3)
    clear hk3 C3 hI
    have C4 := hide (join_c (cap := c2) (cap2 := c1) Iq.out Ip.out P2.out P1.out hm30)
    go_wp2_with fail
    refine C4.out.mono ?_
    rintro e x4 ⟨g4, rfl, hI, hk4⟩
    replace Ip := hide (Ip.out.non hk4)
    replace Iq := hide (Iq.out.non hk4)
    replace Ir := hide (Ir.out.non hk4)
    replace Im := hide (Im.out.non hk4)
    replace Ib := hide (Ib.out.non hk4)
    replace Io := hide (Io.out.non hk4)
    have It := hide hI
    replace HK := hide (HK.out.then hk4)
    clear hk4 C4 hI
    have C5 := hide (equal_c (cap := m) (cap2 := m) Im.out Ib.out true (decide_eq_true (meet_comm P1.out P2.out)))
    go_wp2_with fail
    refine C5.out.mono ?_
    rintro e x5 ⟨rfl, hk5⟩
    replace Ip := hide (Ip.out.non hk5)
    replace Iq := hide (Iq.out.non hk5)
    replace Ir := hide (Ir.out.non hk5)
    replace Im := hide (Im.out.non hk5)
    replace Ib := hide (Ib.out.non hk5)
    replace Io := hide (Io.out.non hk5)
    replace It := hide (It.out.non hk5)
    replace HK := hide (HK.out.then hk5)
    clear hk5 C5
    have C6 := hide (equal_c (cap := m) (cap2 := m) Io.out It.out true (decide_eq_true (join_comm P1.out P2.out)))
    go_wp2_with fail
    refine C6.out.mono ?_
    rintro e x6 ⟨rfl, hk6⟩
    replace Ip := hide (Ip.out.non hk6)
    replace Iq := hide (Iq.out.non hk6)
    replace Ir := hide (Ir.out.non hk6)
    replace Im := hide (Im.out.non hk6)
    replace Ib := hide (Ib.out.non hk6)
    replace Io := hide (Io.out.non hk6)
    replace It := hide (It.out.non hk6)
    replace HK := hide (HK.out.then hk6)
    clear hk6 C6
    clear Ib It
    have C7 := hide (meet_c (cap := c1) (cap2 := m) Ip.out Io.out P1.out (join_pt P1.out P2.out) hm30)
    go_wp2_with fail
    refine C7.out.mono ?_
    rintro e x7 ⟨g7, rfl, hI, hk7⟩
    replace Ip := hide (Ip.out.non hk7)
    replace Iq := hide (Iq.out.non hk7)
    replace Ir := hide (Ir.out.non hk7)
    replace Im := hide (Im.out.non hk7)
    replace Io := hide (Io.out.non hk7)
    have Ia := hide hI
    replace HK := hide (HK.out.then hk7)
    clear hk7 C7 hI
    have C8 := hide (join_c (cap := c1) (cap2 := m) Ip.out Im.out P1.out (meet_pt P1.out P2.out) hm30)
    go_wp2_with fail
    refine C8.out.mono ?_
    rintro e x8 ⟨g8, rfl, hI, hk8⟩
    replace Ip := hide (Ip.out.non hk8)
    replace Iq := hide (Iq.out.non hk8)
    replace Ir := hide (Ir.out.non hk8)
    replace Im := hide (Im.out.non hk8)
    replace Io := hide (Io.out.non hk8)
    replace Ia := hide (Ia.out.non hk8)
    have Ibb := hide hI
    replace HK := hide (HK.out.then hk8)
    clear hk8 C8 hI
    obtain ⟨v, hv⟩ : ∃ v, decide (meetL p q = p) = v := ⟨_, rfl⟩
    have hv2 : decide (joinL p q = q) = v := by
      rw [← hv]
      exact decide_eq_decide.2 ((finer_join P1.out P2.out).trans (finer_iff P1.out P2.out).symm)
    have HV := hide hv
    have HV2 := hide hv2
    clear hv hv2
    have C9 := hide (finer_c (cap := c1) (cap2 := c2) Ip.out Iq.out P1.out P2.out hm30 v HV.out)
    go_wp2_with fail
    refine C9.out.mono ?_
    rintro e x9 ⟨rfl, hk9⟩
    replace Ip := hide (Ip.out.non hk9)
    replace Iq := hide (Iq.out.non hk9)
    replace Ir := hide (Ir.out.non hk9)
    replace Im := hide (Im.out.non hk9)
    replace Io := hide (Io.out.non hk9)
    replace Ia := hide (Ia.out.non hk9)
    replace Ibb := hide (Ibb.out.non hk9)
    replace HK := hide (HK.out.then hk9)
    clear hk9 C9
    have C10 := hide (finer_c (cap := m) (cap2 := c1) Im.out Ip.out (meet_pt P1.out P2.out) P1.out hm30 true (decide_eq_true (meet_finer P1.out P2.out)))
    go_wp2_with fail
    refine C10.out.mono ?_
    rintro e x10 ⟨rfl, hk10⟩
    replace Ip := hide (Ip.out.non hk10)
    replace Iq := hide (Iq.out.non hk10)
    replace Ir := hide (Ir.out.non hk10)
    replace Im := hide (Im.out.non hk10)
    replace Io := hide (Io.out.non hk10)
    replace Ia := hide (Ia.out.non hk10)
    replace Ibb := hide (Ibb.out.non hk10)
    replace HK := hide (HK.out.then hk10)
    clear hk10 C10
    have C11 := hide (finer_c (cap := c1) (cap2 := m) Ip.out Io.out P1.out (join_pt P1.out P2.out) hm30 true (decide_eq_true (meet_join P1.out P2.out)))
    go_wp2_with fail
    refine C11.out.mono ?_
    rintro e x11 ⟨rfl, hk11⟩
    replace Ip := hide (Ip.out.non hk11)
    replace Iq := hide (Iq.out.non hk11)
    replace Ir := hide (Ir.out.non hk11)
    replace Im := hide (Im.out.non hk11)
    replace Io := hide (Io.out.non hk11)
    replace Ia := hide (Ia.out.non hk11)
    replace Ibb := hide (Ibb.out.non hk11)
    replace HK := hide (HK.out.then hk11)
    clear hk11 C11
    have C12 := hide (equal_c (cap := m) (cap2 := c1) Ia.out Ip.out true (decide_eq_true (meet_join P1.out P2.out)))
    go_wp2_with fail
    refine C12.out.mono ?_
    rintro e x12 ⟨rfl, hk12⟩
    replace Ip := hide (Ip.out.non hk12)
    replace Iq := hide (Iq.out.non hk12)
    replace Ir := hide (Ir.out.non hk12)
    replace Im := hide (Im.out.non hk12)
    replace Io := hide (Io.out.non hk12)
    replace Ia := hide (Ia.out.non hk12)
    replace Ibb := hide (Ibb.out.non hk12)
    replace HK := hide (HK.out.then hk12)
    clear hk12 C12
    have C13 := hide (equal_c (cap := m) (cap2 := c1) Ibb.out Ip.out true (decide_eq_true (join_meet P1.out P2.out)))
    go_wp2_with fail
    refine C13.out.mono ?_
    rintro e x13 ⟨rfl, hk13⟩
    replace Ip := hide (Ip.out.non hk13)
    replace Iq := hide (Iq.out.non hk13)
    replace Ir := hide (Ir.out.non hk13)
    replace Im := hide (Im.out.non hk13)
    replace Io := hide (Io.out.non hk13)
    replace Ia := hide (Ia.out.non hk13)
    replace Ibb := hide (Ibb.out.non hk13)
    replace HK := hide (HK.out.then hk13)
    clear hk13 C13
    have C14 := hide (equal_c (cap := m) (cap2 := c1) Im.out Ip.out v (HV.out))
    go_wp2_with fail
    refine C14.out.mono ?_
    rintro e x14 ⟨rfl, hk14⟩
    replace Ip := hide (Ip.out.non hk14)
    replace Iq := hide (Iq.out.non hk14)
    replace Ir := hide (Ir.out.non hk14)
    replace Im := hide (Im.out.non hk14)
    replace Io := hide (Io.out.non hk14)
    replace Ia := hide (Ia.out.non hk14)
    replace Ibb := hide (Ibb.out.non hk14)
    replace HK := hide (HK.out.then hk14)
    clear hk14 C14
    cases v
    all_goals
      have C15 := hide (equal_c (cap := m) (cap2 := c2) Io.out Iq.out _ (HV2.out))
      go_wp2_with fail
      refine C15.out.mono ?_
      rintro e x15 ⟨rfl, hk15⟩
      replace Ip := hide (Ip.out.non hk15)
      replace Iq := hide (Iq.out.non hk15)
      replace Ir := hide (Ir.out.non hk15)
      replace Im := hide (Im.out.non hk15)
      replace Io := hide (Io.out.non hk15)
      replace Ia := hide (Ia.out.non hk15)
      replace Ibb := hide (Ibb.out.non hk15)
      replace HK := hide (HK.out.then hk15)
      clear hk15 C15
      clear Ia Ibb
      have C16 := hide (meet_c (cap := m) (cap2 := c3) Im.out Ir.out (meet_pt P1.out P2.out) P3.out hm30)
      go_wp2_with fail
      refine C16.out.mono ?_
      rintro e x16 ⟨g16, rfl, hI, hk16⟩
      replace Ip := hide (Ip.out.non hk16)
      replace Iq := hide (Iq.out.non hk16)
      replace Ir := hide (Ir.out.non hk16)
      replace Im := hide (Im.out.non hk16)
      replace Io := hide (Io.out.non hk16)
      have Ic := hide hI
      replace HK := hide (HK.out.then hk16)
      clear hk16 C16 hI
      have C17 := hide (meet_c (cap := c2) (cap2 := c3) Iq.out Ir.out P2.out P3.out hm30)
      go_wp2_with fail
      refine C17.out.mono ?_
      rintro e x17 ⟨g17, rfl, hI, hk17⟩
      replace Ip := hide (Ip.out.non hk17)
      replace Iq := hide (Iq.out.non hk17)
      replace Ir := hide (Ir.out.non hk17)
      replace Im := hide (Im.out.non hk17)
      replace Io := hide (Io.out.non hk17)
      replace Ic := hide (Ic.out.non hk17)
      have Id := hide hI
      replace HK := hide (HK.out.then hk17)
      clear hk17 C17 hI
      have C18 := hide (meet_c (cap := c1) (cap2 := m) Ip.out Id.out P1.out (meet_pt P2.out P3.out) hm30)
      go_wp2_with fail
      refine C18.out.mono ?_
      rintro e x18 ⟨g18, rfl, hI, hk18⟩
      replace Ip := hide (Ip.out.non hk18)
      replace Iq := hide (Iq.out.non hk18)
      replace Ir := hide (Ir.out.non hk18)
      replace Im := hide (Im.out.non hk18)
      replace Io := hide (Io.out.non hk18)
      replace Ic := hide (Ic.out.non hk18)
      replace Id := hide (Id.out.non hk18)
      have Id2 := hide hI
      replace HK := hide (HK.out.then hk18)
      clear hk18 C18 hI
      have C19 := hide (join_c (cap := m) (cap2 := c3) Io.out Ir.out (join_pt P1.out P2.out) P3.out hm30)
      go_wp2_with fail
      refine C19.out.mono ?_
      rintro e x19 ⟨g19, rfl, hI, hk19⟩
      replace Ip := hide (Ip.out.non hk19)
      replace Iq := hide (Iq.out.non hk19)
      replace Ir := hide (Ir.out.non hk19)
      replace Im := hide (Im.out.non hk19)
      replace Io := hide (Io.out.non hk19)
      replace Ic := hide (Ic.out.non hk19)
      replace Id := hide (Id.out.non hk19)
      replace Id2 := hide (Id2.out.non hk19)
      have If := hide hI
      replace HK := hide (HK.out.then hk19)
      clear hk19 C19 hI
      have C20 := hide (join_c (cap := c2) (cap2 := c3) Iq.out Ir.out P2.out P3.out hm30)
      go_wp2_with fail
      refine C20.out.mono ?_
      rintro e x20 ⟨g20, rfl, hI, hk20⟩
      replace Ip := hide (Ip.out.non hk20)
      replace Iq := hide (Iq.out.non hk20)
      replace Ir := hide (Ir.out.non hk20)
      replace Im := hide (Im.out.non hk20)
      replace Io := hide (Io.out.non hk20)
      replace Ic := hide (Ic.out.non hk20)
      replace Id := hide (Id.out.non hk20)
      replace Id2 := hide (Id2.out.non hk20)
      replace If := hide (If.out.non hk20)
      have Ig := hide hI
      replace HK := hide (HK.out.then hk20)
      clear hk20 C20 hI
      have C21 := hide (join_c (cap := c1) (cap2 := m) Ip.out Ig.out P1.out (join_pt P2.out P3.out) hm30)
      go_wp2_with fail
      refine C21.out.mono ?_
      rintro e x21 ⟨g21, rfl, hI, hk21⟩
      replace Ip := hide (Ip.out.non hk21)
      replace Iq := hide (Iq.out.non hk21)
      replace Ir := hide (Ir.out.non hk21)
      replace Im := hide (Im.out.non hk21)
      replace Io := hide (Io.out.non hk21)
      replace Ic := hide (Ic.out.non hk21)
      replace Id := hide (Id.out.non hk21)
      replace Id2 := hide (Id2.out.non hk21)
      replace If := hide (If.out.non hk21)
      replace Ig := hide (Ig.out.non hk21)
      have Ig2 := hide hI
      replace HK := hide (HK.out.then hk21)
      clear hk21 C21 hI
      have C22 := hide (equal_c (cap := m) (cap2 := m) Ic.out Id2.out true (decide_eq_true (meet_assoc P1.out P2.out P3.out)))
      go_wp2_with fail
      refine C22.out.mono ?_
      rintro e x22 ⟨rfl, hk22⟩
      replace Ip := hide (Ip.out.non hk22)
      replace Iq := hide (Iq.out.non hk22)
      replace Ir := hide (Ir.out.non hk22)
      replace Im := hide (Im.out.non hk22)
      replace Io := hide (Io.out.non hk22)
      replace Ic := hide (Ic.out.non hk22)
      replace Id := hide (Id.out.non hk22)
      replace Id2 := hide (Id2.out.non hk22)
      replace If := hide (If.out.non hk22)
      replace Ig := hide (Ig.out.non hk22)
      replace Ig2 := hide (Ig2.out.non hk22)
      replace HK := hide (HK.out.then hk22)
      clear hk22 C22
      have C23 := hide (equal_c (cap := m) (cap2 := m) If.out Ig2.out true (decide_eq_true (join_assoc P1.out P2.out P3.out)))
      go_wp2_with fail
      refine C23.out.mono ?_
      rintro e x23 ⟨rfl, hk23⟩
      replace Ip := hide (Ip.out.non hk23)
      replace Iq := hide (Iq.out.non hk23)
      replace Ir := hide (Ir.out.non hk23)
      replace Im := hide (Im.out.non hk23)
      replace Io := hide (Io.out.non hk23)
      replace Ic := hide (Ic.out.non hk23)
      replace Id := hide (Id.out.non hk23)
      replace Id2 := hide (Id2.out.non hk23)
      replace If := hide (If.out.non hk23)
      replace Ig := hide (Ig.out.non hk23)
      replace Ig2 := hide (Ig2.out.non hk23)
      replace HK := hide (HK.out.then hk23)
      clear hk23 C23
      have C24 := hide (awake_l x23)
      go_wp2_with fail
      refine C24.out.mono ?_
      rintro e x24 ⟨rfl, hk24⟩
      replace Ip := hide (Ip.out.non hk24)
      replace Iq := hide (Iq.out.non hk24)
      replace Ir := hide (Ir.out.non hk24)
      replace Im := hide (Im.out.non hk24)
      replace Io := hide (Io.out.non hk24)
      replace Ic := hide (Ic.out.non hk24)
      replace Id := hide (Id.out.non hk24)
      replace Id2 := hide (Id2.out.non hk24)
      replace If := hide (If.out.non hk24)
      replace Ig := hide (Ig.out.non hk24)
      replace Ig2 := hide (Ig2.out.non hk24)
      replace HK := hide (HK.out.then hk24)
      clear hk24 C24
      go_wp2_with fail
      go_ret
      exact ⟨rfl, HK.out⟩
end Go.Proofs.Ytkcbahfmdokalaa
