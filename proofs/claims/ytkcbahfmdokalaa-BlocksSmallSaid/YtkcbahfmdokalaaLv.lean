/-
  The walk over layer 6's statements: pairs, where something is wrong; BlocksPairs. No condition beyond the row's own.
-/
import Derived.Test.YtkcbahfmdokalaaLp
import Derived.Test.YtkcbahfmdokalaaOp
namespace Go.Proofs.Ytkcbahfmdokalaa
open Go.RowKit
attribute [local go_sem] onto_cell onto_frozen
set_option linter.unusedVariables false
theorem bothE_1 {p q : List Int} (h : rightB p = false) : bothE p q = 60 := by
  unfold bothE
  rw [if_neg (by rw [h]; simp)]
theorem bothE_2 {p q : List Int} (h : rightB q = false) : bothE p q = 60 := by
  unfold bothE
  rw [if_neg (by rw [h]; simp)]
theorem bothE_3 {p q : List Int} (h : rightB p = true) (h2 : rightB q = true) (hl : p.length ≠ q.length) : bothE p q = 2 := by
  unfold bothE
  rw [if_pos ⟨h, h2⟩, if_neg hl]
theorem countE_no {a : Option Addr} {n cap : Nat} {p : List Int} {w : World} (h : Ints w a n p) (hg : Good p) (hr : rightB p = false) :
    Calls Try.prog 34 #[.slice a n cap] w fun e w' => e = .returned (.tuple #[.int .i64 0, .int .i64 60]) ∧ Keeps Non w w' := by
  have := countE_l a n cap p w h hg
  have e : countR p = (0, 60) := if_neg (by rw [hr]; simp)
  rw [e] at this
  exact this
theorem members_c2 {n : Nat} {p : List Int} {w : World} {a : Option Addr} {cap : Nat} (h : Ints w a n p) (hp : Pt n p) (hn : n ≤ 1024) (k : Nat) (hk : cnt p = k) :
    Calls Try.prog 36 #[.slice a n cap] w fun e w' => ∃ g, e = .returned (.tuple #[.slice (some ⟨g, 0, none⟩) k k, .int .i64 0]) ∧ Rows w' (some ⟨g, 0, none⟩) k (membersL p) ∧ Keeps Non w w' :=
  (members_yes a n cap p w h (pt_good hp hn) (pt_right hp hn)).mono fun e w' ⟨v, h1, h2⟩ => by
    obtain ⟨B, S, rfl, _, h3, h4⟩ := h2
    have hl : (membersL p).length = k := by rw [membersL, memAt_length, hk]
    have hc := cnt_le_length p
    rw [hp.len] at hc
    have hR := h3.rows (by omega) (fun i => by
      have := memAt_short p p.length i
      rw [hp.len] at this
      show (List.getD (memAt p p.length) i []).length ≤ _
      rw [hp.len]
      omega)
    rw [hl] at h1 hR
    exact ⟨B, h1, hR, h4⟩
set_option maxRecDepth 100000 in
set_option maxHeartbeats 16000000 in
theorem pairs_no1 (a b : Option Addr) (n m cap cap2 : Nat) (p q : List Int) (w : World) (h : Ints w a n p) (h2 : Ints w b m q) (hg : Good p) (hg2 : Good q) (hn : n ≤ 1000) (hm : m ≤ 1000) (hr : rightB p = false) :
    Calls Try.prog 38 #[.slice a n cap, .slice b m cap2] w fun e w' => e = .returned (.bool true) ∧ Keeps Non w w' := by
  have HB := hide (bothE_1 (q := q) hr)
  have HR := hide hr
  clear hr
  have HG := hide hg
  have HG2 := hide hg2
  have Ip := hide h
  have Iq := hide h2
  have HK := hide (Keeps.refl Non w)
  clear h h2 hg hg2
  go_enter Try.func38, Try.ntmps38
  have C1 := hide (clone_own a n cap p w Ip.out (by omega))
  go_wp2_with fail
  refine C1.out.mono ?_
  rintro e x1 ⟨_, rfl, ho, hk1⟩
  replace Ip := hide (Ip.out.non hk1)
  replace Iq := hide (Iq.out.non hk1)
  replace HK := hide (HK.out.then hk1)
  obtain ⟨a1, c1, rfl, hI⟩ := ints_of_owns ho (by omega)
  have Ia := hide hI
  clear hk1 C1 ho hI
  have C2 := hide (clone_own b m cap2 q x1 Iq.out (by omega))
  go_wp2_with fail
  refine C2.out.mono ?_
  rintro e x2 ⟨_, rfl, ho, hk2⟩
  replace Ip := hide (Ip.out.non hk2)
  replace Iq := hide (Iq.out.non hk2)
  replace Ia := hide (Ia.out.non hk2)
  replace HK := hide (HK.out.then hk2)
  obtain ⟨a2, c2, rfl, hI⟩ := ints_of_owns ho (by omega)
  have Ib := hide hI
  clear hk2 C2 ho hI
  have C3 := hide (finer_no a1 a2 n c1 m c2 p q x2 Ia.out Ib.out HG.out HG2.out 60 HB.out (by decide))
  go_wp2_with fail
  refine C3.out.mono ?_
  rintro e x3 ⟨rfl, hk3⟩
  replace Ip := hide (Ip.out.non hk3)
  replace Iq := hide (Iq.out.non hk3)
  replace Ia := hide (Ia.out.non hk3)
  replace Ib := hide (Ib.out.non hk3)
  replace HK := hide (HK.out.then hk3)
  clear hk3 C3
  have C4 := hide (meet_no a1 a2 n c1 m c2 p q x3 Ia.out Ib.out HG.out HG2.out 60 HB.out (by decide))
  go_wp2_with fail
  refine C4.out.mono ?_
  rintro e x4 ⟨rfl, hk4⟩
  replace Ip := hide (Ip.out.non hk4)
  replace Iq := hide (Iq.out.non hk4)
  replace Ia := hide (Ia.out.non hk4)
  replace Ib := hide (Ib.out.non hk4)
  replace HK := hide (HK.out.then hk4)
  clear hk4 C4
  have C5 := hide (join_no a1 a2 n c1 m c2 p q x4 Ia.out Ib.out HG.out HG2.out 60 HB.out (by decide))
  go_wp2_with fail
  refine C5.out.mono ?_
  rintro e x5 ⟨rfl, hk5⟩
  replace Ip := hide (Ip.out.non hk5)
  replace Iq := hide (Iq.out.non hk5)
  replace Ia := hide (Ia.out.non hk5)
  replace Ib := hide (Ib.out.non hk5)
  replace HK := hide (HK.out.then hk5)
  clear hk5 C5
  have C6 := hide (countE_no (cap := c1) Ia.out HG.out HR.out)
  go_wp2_with fail
  refine C6.out.mono ?_
  rintro e x6 ⟨rfl, hk6⟩
  replace Ip := hide (Ip.out.non hk6)
  replace Iq := hide (Iq.out.non hk6)
  replace Ia := hide (Ia.out.non hk6)
  replace Ib := hide (Ib.out.non hk6)
  replace HK := hide (HK.out.then hk6)
  clear hk6 C6
  have C7 := hide (members_no a1 n c1 p x6 Ia.out HG.out HR.out)
  go_wp2_with fail
  refine C7.out.mono ?_
  rintro e x7 ⟨rfl, hk7⟩
  replace Ip := hide (Ip.out.non hk7)
  replace Iq := hide (Iq.out.non hk7)
  replace Ia := hide (Ia.out.non hk7)
  replace Ib := hide (Ib.out.non hk7)
  replace HK := hide (HK.out.then hk7)
  clear hk7 C7
  have C8 := hide (equal_c (cap := c1) (cap2 := cap) Ia.out Ip.out true (decide_eq_true rfl))
  go_wp2_with fail
  refine C8.out.mono ?_
  rintro e x8 ⟨rfl, hk8⟩
  replace Ip := hide (Ip.out.non hk8)
  replace Iq := hide (Iq.out.non hk8)
  replace Ia := hide (Ia.out.non hk8)
  replace Ib := hide (Ib.out.non hk8)
  replace HK := hide (HK.out.then hk8)
  clear hk8 C8
  have C9 := hide (equal_c (cap := c2) (cap2 := cap2) Ib.out Iq.out true (decide_eq_true rfl))
  go_wp2_with fail
  refine C9.out.mono ?_
  rintro e x9 ⟨rfl, hk9⟩
  replace Ip := hide (Ip.out.non hk9)
  replace Iq := hide (Iq.out.non hk9)
  replace Ia := hide (Ia.out.non hk9)
  replace Ib := hide (Ib.out.non hk9)
  replace HK := hide (HK.out.then hk9)
  clear hk9 C9
  have C10 := hide (right_at a1 n c1 p false x9 Ia.out HG.out HR.out)
  go_wp2_with fail
  refine C10.out.mono ?_
  rintro e x10 ⟨rfl, hk10⟩
  replace Ip := hide (Ip.out.non hk10)
  replace Iq := hide (Iq.out.non hk10)
  replace Ia := hide (Ia.out.non hk10)
  replace Ib := hide (Ib.out.non hk10)
  replace HK := hide (HK.out.then hk10)
  clear hk10 C10
  have C11 := hide (rightR_l a n cap p false x10 Ip.out HR.out)
  go_wp2_with fail
  refine C11.out.mono ?_
  rintro e x11 ⟨rfl, hk11⟩
  replace Ip := hide (Ip.out.non hk11)
  replace Iq := hide (Iq.out.non hk11)
  replace Ia := hide (Ia.out.non hk11)
  replace Ib := hide (Ib.out.non hk11)
  replace HK := hide (HK.out.then hk11)
  clear hk11 C11
  have C12 := hide (rightR_l a n cap p false x11 Ip.out HR.out)
  go_wp2_with fail
  refine C12.out.mono ?_
  rintro e x12 ⟨rfl, hk12⟩
  replace Ip := hide (Ip.out.non hk12)
  replace Iq := hide (Iq.out.non hk12)
  replace Ia := hide (Ia.out.non hk12)
  replace Ib := hide (Ib.out.non hk12)
  replace HK := hide (HK.out.then hk12)
  clear hk12 C12
  go_wp2_with fail
  go_ret
  exact ⟨rfl, HK.out⟩
set_option maxRecDepth 100000 in
set_option maxHeartbeats 16000000 in
theorem pairs_no2 (a b : Option Addr) (n m cap cap2 : Nat) (p q : List Int) (w : World) (h : Ints w a n p) (h2 : Ints w b m q) (hg : Good p) (hg2 : Good q) (hn : n ≤ 1000) (hm : m ≤ 1000) (hr : rightB p = true) (hr2 : rightB q = false) :
    Calls Try.prog 38 #[.slice a n cap, .slice b m cap2] w fun e w' => e = .returned (.bool true) ∧ Keeps Non w w' := by
  have HB := hide (bothE_2 (p := p) hr2)
  have HR := hide hr
  have HR2 := hide hr2
  have P1 : Hid (Pt n p) := ⟨h.len, (rightB_iff.1 hr).2⟩
  clear hr hr2
  obtain ⟨kq, hkq⟩ : ∃ kq, cnt p = kq := ⟨_, rfl⟩
  have HKq := hide hkq
  have hkm : kq ≤ n := by
    have := cnt_le_length p
    rw [P1.out.len] at this
    omega
  have hn31 : n ≤ 1024 := by omega
  have hlm : (membersL p).length = kq := by rw [membersL, memAt_length, hkq]
  have HLm := hide hlm
  clear hkq hlm
  have HG := hide hg
  have HG2 := hide hg2
  have Ip := hide h
  have Iq := hide h2
  have HK := hide (Keeps.refl Non w)
  clear h h2 hg hg2
  go_enter Try.func38, Try.ntmps38
  have C1 := hide (clone_own a n cap p w Ip.out (by omega))
  go_wp2_with fail
  refine C1.out.mono ?_
  rintro e x1 ⟨_, rfl, ho, hk1⟩
  replace Ip := hide (Ip.out.non hk1)
  replace Iq := hide (Iq.out.non hk1)
  replace HK := hide (HK.out.then hk1)
  obtain ⟨a1, c1, rfl, hI⟩ := ints_of_owns ho (by omega)
  have Ia := hide hI
  clear hk1 C1 ho hI
  have C2 := hide (clone_own b m cap2 q x1 Iq.out (by omega))
  go_wp2_with fail
  refine C2.out.mono ?_
  rintro e x2 ⟨_, rfl, ho, hk2⟩
  replace Ip := hide (Ip.out.non hk2)
  replace Iq := hide (Iq.out.non hk2)
  replace Ia := hide (Ia.out.non hk2)
  replace HK := hide (HK.out.then hk2)
  obtain ⟨a2, c2, rfl, hI⟩ := ints_of_owns ho (by omega)
  have Ib := hide hI
  clear hk2 C2 ho hI
  have C3 := hide (finer_no a1 a2 n c1 m c2 p q x2 Ia.out Ib.out HG.out HG2.out 60 HB.out (by decide))
  go_wp2_with fail
  refine C3.out.mono ?_
  rintro e x3 ⟨rfl, hk3⟩
  replace Ip := hide (Ip.out.non hk3)
  replace Iq := hide (Iq.out.non hk3)
  replace Ia := hide (Ia.out.non hk3)
  replace Ib := hide (Ib.out.non hk3)
  replace HK := hide (HK.out.then hk3)
  clear hk3 C3
  have C4 := hide (meet_no a1 a2 n c1 m c2 p q x3 Ia.out Ib.out HG.out HG2.out 60 HB.out (by decide))
  go_wp2_with fail
  refine C4.out.mono ?_
  rintro e x4 ⟨rfl, hk4⟩
  replace Ip := hide (Ip.out.non hk4)
  replace Iq := hide (Iq.out.non hk4)
  replace Ia := hide (Ia.out.non hk4)
  replace Ib := hide (Ib.out.non hk4)
  replace HK := hide (HK.out.then hk4)
  clear hk4 C4
  have C5 := hide (join_no a1 a2 n c1 m c2 p q x4 Ia.out Ib.out HG.out HG2.out 60 HB.out (by decide))
  go_wp2_with fail
  refine C5.out.mono ?_
  rintro e x5 ⟨rfl, hk5⟩
  replace Ip := hide (Ip.out.non hk5)
  replace Iq := hide (Iq.out.non hk5)
  replace Ia := hide (Ia.out.non hk5)
  replace Ib := hide (Ib.out.non hk5)
  replace HK := hide (HK.out.then hk5)
  clear hk5 C5
  have C6 := hide (count_c (cap := c1) Ia.out P1.out hn31 kq HKq.out)
  go_wp2_with fail
  refine C6.out.mono ?_
  rintro e x6 ⟨rfl, hk6⟩
  replace Ip := hide (Ip.out.non hk6)
  replace Iq := hide (Iq.out.non hk6)
  replace Ia := hide (Ia.out.non hk6)
  replace Ib := hide (Ib.out.non hk6)
  replace HK := hide (HK.out.then hk6)
  clear hk6 C6
  have C7 := hide (members_c2 (cap := c1) Ia.out P1.out hn31 kq HKq.out)
  go_wp2_with fail
  refine C7.out.mono ?_
  rintro e x7 ⟨g1, rfl, hR, hk7⟩
  replace Ip := hide (Ip.out.non hk7)
  replace Iq := hide (Iq.out.non hk7)
  replace Ia := hide (Ia.out.non hk7)
  replace Ib := hide (Ib.out.non hk7)
  have Rm := hide hR
  replace HK := hide (HK.out.then hk7)
  clear hk7 C7 hR
  have C8 := hide (equal_c (cap := c1) (cap2 := cap) Ia.out Ip.out true (decide_eq_true rfl))
  go_wp2_with fail
  refine C8.out.mono ?_
  rintro e x8 ⟨rfl, hk8⟩
  replace Ip := hide (Ip.out.non hk8)
  replace Iq := hide (Iq.out.non hk8)
  replace Ia := hide (Ia.out.non hk8)
  replace Ib := hide (Ib.out.non hk8)
  replace Rm := hide (Rm.out.non hk8)
  replace HK := hide (HK.out.then hk8)
  clear hk8 C8
  have C9 := hide (equal_c (cap := c2) (cap2 := cap2) Ib.out Iq.out true (decide_eq_true rfl))
  go_wp2_with fail
  refine C9.out.mono ?_
  rintro e x9 ⟨rfl, hk9⟩
  replace Ip := hide (Ip.out.non hk9)
  replace Iq := hide (Iq.out.non hk9)
  replace Ia := hide (Ia.out.non hk9)
  replace Ib := hide (Ib.out.non hk9)
  replace Rm := hide (Rm.out.non hk9)
  replace HK := hide (HK.out.then hk9)
  clear hk9 C9
  have C10 := hide (right_at a1 n c1 p true x9 Ia.out HG.out HR.out)
  go_wp2_with fail
  refine C10.out.mono ?_
  rintro e x10 ⟨rfl, hk10⟩
  replace Ip := hide (Ip.out.non hk10)
  replace Iq := hide (Iq.out.non hk10)
  replace Ia := hide (Ia.out.non hk10)
  replace Ib := hide (Ib.out.non hk10)
  replace Rm := hide (Rm.out.non hk10)
  replace HK := hide (HK.out.then hk10)
  clear hk10 C10
  have C11 := hide (rightR_l a n cap p true x10 Ip.out HR.out)
  go_wp2_with fail
  refine C11.out.mono ?_
  rintro e x11 ⟨rfl, hk11⟩
  replace Ip := hide (Ip.out.non hk11)
  replace Iq := hide (Iq.out.non hk11)
  replace Ia := hide (Ia.out.non hk11)
  replace Ib := hide (Ib.out.non hk11)
  replace Rm := hide (Rm.out.non hk11)
  replace HK := hide (HK.out.then hk11)
  clear hk11 C11
  have C12 := hide (rightR_l a n cap p true x11 Ip.out HR.out)
  go_wp2_with fail
  refine C12.out.mono ?_
  rintro e x12 ⟨rfl, hk12⟩
  replace Ip := hide (Ip.out.non hk12)
  replace Iq := hide (Iq.out.non hk12)
  replace Ia := hide (Ia.out.non hk12)
  replace Ib := hide (Ib.out.non hk12)
  replace Rm := hide (Rm.out.non hk12)
  replace HK := hide (HK.out.then hk12)
  clear hk12 C12
  have C13 := hide (countR_c (cap := cap) Ip.out P1.out hn31 kq HKq.out)
  go_wp2_with fail
  refine C13.out.mono ?_
  rintro e x13 ⟨rfl, hk13⟩
  replace Ip := hide (Ip.out.non hk13)
  replace Iq := hide (Iq.out.non hk13)
  replace Ia := hide (Ia.out.non hk13)
  replace Ib := hide (Ib.out.non hk13)
  replace Rm := hide (Rm.out.non hk13)
  replace HK := hide (HK.out.then hk13)
  clear hk13 C13
  have C14 := hide (membersR_l a n cap p x13 Ip.out P1.out hn31)
  go_wp2_with fail
  refine C14.out.mono ?_
  rintro e x14 ⟨_, rfl, am, cm, rfl, hRm, hk14⟩
  replace Ip := hide (Ip.out.non hk14)
  replace Iq := hide (Iq.out.non hk14)
  replace Ia := hide (Ia.out.non hk14)
  replace Ib := hide (Ib.out.non hk14)
  replace Rm := hide (Rm.out.non hk14)
  replace HK := hide (HK.out.then hk14)
  have RM := hide hRm
  rw [HLm.out] at RM ⊢
  clear hk14 C14 hRm
  have hL := lists_l (some ⟨g1, 0, none⟩) kq kq _ am kq cm _ x14 Rm.out RM.out
  rw [decide_eq_true rfl] at hL
  have HL := hide hL
  clear hL
  have C15 := hide (HL.out)
  go_wp2_with fail
  refine C15.out.mono ?_
  rintro e x15 ⟨rfl, hk15⟩
  replace Ip := hide (Ip.out.non hk15)
  replace Iq := hide (Iq.out.non hk15)
  replace Ia := hide (Ia.out.non hk15)
  replace Ib := hide (Ib.out.non hk15)
  replace Rm := hide (Rm.out.non hk15)
  replace RM := hide (RM.out.non hk15)
  replace HK := hide (HK.out.then hk15)
  clear hk15 C15
  clear HL
  have C16 := hide (rightR_l b m cap2 q false x15 Iq.out HR2.out)
  go_wp2_with fail
  refine C16.out.mono ?_
  rintro e x16 ⟨rfl, hk16⟩
  replace Ip := hide (Ip.out.non hk16)
  replace Iq := hide (Iq.out.non hk16)
  replace Ia := hide (Ia.out.non hk16)
  replace Ib := hide (Ib.out.non hk16)
  replace Rm := hide (Rm.out.non hk16)
  replace RM := hide (RM.out.non hk16)
  replace HK := hide (HK.out.then hk16)
  clear hk16 C16
  go_wp2_with fail
  go_ret
  exact ⟨rfl, HK.out⟩
set_option maxRecDepth 100000 in
set_option maxHeartbeats 16000000 in
theorem pairs_no3 (a b : Option Addr) (n m cap cap2 : Nat) (p q : List Int) (w : World) (h : Ints w a n p) (h2 : Ints w b m q) (hg : Good p) (hg2 : Good q) (hn : n ≤ 1000) (hm : m ≤ 1000) (hr : rightB p = true) (hr2 : rightB q = true) (hnm : n ≠ m) :
    Calls Try.prog 38 #[.slice a n cap, .slice b m cap2] w fun e w' => e = .returned (.bool true) ∧ Keeps Non w w' := by
  have HB := hide (bothE_3 hr hr2 (by rw [h.len, h2.len]; exact hnm))
  have HR := hide hr
  have HR2 := hide hr2
  have P1 : Hid (Pt n p) := ⟨h.len, (rightB_iff.1 hr).2⟩
  have e1 : ((n : Int) != (m : Int)) = true := by simp; omega
  clear hr hr2 hnm
  obtain ⟨kq, hkq⟩ : ∃ kq, cnt p = kq := ⟨_, rfl⟩
  have HKq := hide hkq
  have hkm : kq ≤ n := by
    have := cnt_le_length p
    rw [P1.out.len] at this
    omega
  have hn31 : n ≤ 1024 := by omega
  have hlm : (membersL p).length = kq := by rw [membersL, memAt_length, hkq]
  have HLm := hide hlm
  clear hkq hlm
  have HG := hide hg
  have HG2 := hide hg2
  have Ip := hide h
  have Iq := hide h2
  have HK := hide (Keeps.refl Non w)
  clear h h2 hg hg2
  go_enter Try.func38, Try.ntmps38
  have C1 := hide (clone_own a n cap p w Ip.out (by omega))
  go_wp2_with fail
  refine C1.out.mono ?_
  rintro e x1 ⟨_, rfl, ho, hk1⟩
  replace Ip := hide (Ip.out.non hk1)
  replace Iq := hide (Iq.out.non hk1)
  replace HK := hide (HK.out.then hk1)
  obtain ⟨a1, c1, rfl, hI⟩ := ints_of_owns ho (by omega)
  have Ia := hide hI
  clear hk1 C1 ho hI
  have C2 := hide (clone_own b m cap2 q x1 Iq.out (by omega))
  go_wp2_with fail
  refine C2.out.mono ?_
  rintro e x2 ⟨_, rfl, ho, hk2⟩
  replace Ip := hide (Ip.out.non hk2)
  replace Iq := hide (Iq.out.non hk2)
  replace Ia := hide (Ia.out.non hk2)
  replace HK := hide (HK.out.then hk2)
  obtain ⟨a2, c2, rfl, hI⟩ := ints_of_owns ho (by omega)
  have Ib := hide hI
  clear hk2 C2 ho hI
  have C3 := hide (finer_no a1 a2 n c1 m c2 p q x2 Ia.out Ib.out HG.out HG2.out 2 HB.out (by decide))
  go_wp2_with fail
  refine C3.out.mono ?_
  rintro e x3 ⟨rfl, hk3⟩
  replace Ip := hide (Ip.out.non hk3)
  replace Iq := hide (Iq.out.non hk3)
  replace Ia := hide (Ia.out.non hk3)
  replace Ib := hide (Ib.out.non hk3)
  replace HK := hide (HK.out.then hk3)
  clear hk3 C3
  have C4 := hide (meet_no a1 a2 n c1 m c2 p q x3 Ia.out Ib.out HG.out HG2.out 2 HB.out (by decide))
  go_wp2_with fail
  refine C4.out.mono ?_
  rintro e x4 ⟨rfl, hk4⟩
  replace Ip := hide (Ip.out.non hk4)
  replace Iq := hide (Iq.out.non hk4)
  replace Ia := hide (Ia.out.non hk4)
  replace Ib := hide (Ib.out.non hk4)
  replace HK := hide (HK.out.then hk4)
  clear hk4 C4
  have C5 := hide (join_no a1 a2 n c1 m c2 p q x4 Ia.out Ib.out HG.out HG2.out 2 HB.out (by decide))
  go_wp2_with fail
  refine C5.out.mono ?_
  rintro e x5 ⟨rfl, hk5⟩
  replace Ip := hide (Ip.out.non hk5)
  replace Iq := hide (Iq.out.non hk5)
  replace Ia := hide (Ia.out.non hk5)
  replace Ib := hide (Ib.out.non hk5)
  replace HK := hide (HK.out.then hk5)
  clear hk5 C5
  have C6 := hide (count_c (cap := c1) Ia.out P1.out hn31 kq HKq.out)
  go_wp2_with fail
  refine C6.out.mono ?_
  rintro e x6 ⟨rfl, hk6⟩
  replace Ip := hide (Ip.out.non hk6)
  replace Iq := hide (Iq.out.non hk6)
  replace Ia := hide (Ia.out.non hk6)
  replace Ib := hide (Ib.out.non hk6)
  replace HK := hide (HK.out.then hk6)
  clear hk6 C6
  have C7 := hide (members_c2 (cap := c1) Ia.out P1.out hn31 kq HKq.out)
  go_wp2_with fail
  refine C7.out.mono ?_
  rintro e x7 ⟨g1, rfl, hR, hk7⟩
  replace Ip := hide (Ip.out.non hk7)
  replace Iq := hide (Iq.out.non hk7)
  replace Ia := hide (Ia.out.non hk7)
  replace Ib := hide (Ib.out.non hk7)
  have Rm := hide hR
  replace HK := hide (HK.out.then hk7)
  clear hk7 C7 hR
  have C8 := hide (equal_c (cap := c1) (cap2 := cap) Ia.out Ip.out true (decide_eq_true rfl))
  go_wp2_with fail
  refine C8.out.mono ?_
  rintro e x8 ⟨rfl, hk8⟩
  replace Ip := hide (Ip.out.non hk8)
  replace Iq := hide (Iq.out.non hk8)
  replace Ia := hide (Ia.out.non hk8)
  replace Ib := hide (Ib.out.non hk8)
  replace Rm := hide (Rm.out.non hk8)
  replace HK := hide (HK.out.then hk8)
  clear hk8 C8
  have C9 := hide (equal_c (cap := c2) (cap2 := cap2) Ib.out Iq.out true (decide_eq_true rfl))
  go_wp2_with fail
  refine C9.out.mono ?_
  rintro e x9 ⟨rfl, hk9⟩
  replace Ip := hide (Ip.out.non hk9)
  replace Iq := hide (Iq.out.non hk9)
  replace Ia := hide (Ia.out.non hk9)
  replace Ib := hide (Ib.out.non hk9)
  replace Rm := hide (Rm.out.non hk9)
  replace HK := hide (HK.out.then hk9)
  clear hk9 C9
  have C10 := hide (right_at a1 n c1 p true x9 Ia.out HG.out HR.out)
  go_wp2_with fail
  refine C10.out.mono ?_
  rintro e x10 ⟨rfl, hk10⟩
  replace Ip := hide (Ip.out.non hk10)
  replace Iq := hide (Iq.out.non hk10)
  replace Ia := hide (Ia.out.non hk10)
  replace Ib := hide (Ib.out.non hk10)
  replace Rm := hide (Rm.out.non hk10)
  replace HK := hide (HK.out.then hk10)
  clear hk10 C10
  have C11 := hide (rightR_l a n cap p true x10 Ip.out HR.out)
  go_wp2_with fail
  refine C11.out.mono ?_
  rintro e x11 ⟨rfl, hk11⟩
  replace Ip := hide (Ip.out.non hk11)
  replace Iq := hide (Iq.out.non hk11)
  replace Ia := hide (Ia.out.non hk11)
  replace Ib := hide (Ib.out.non hk11)
  replace Rm := hide (Rm.out.non hk11)
  replace HK := hide (HK.out.then hk11)
  clear hk11 C11
  have C12 := hide (rightR_l a n cap p true x11 Ip.out HR.out)
  go_wp2_with fail
  refine C12.out.mono ?_
  rintro e x12 ⟨rfl, hk12⟩
  replace Ip := hide (Ip.out.non hk12)
  replace Iq := hide (Iq.out.non hk12)
  replace Ia := hide (Ia.out.non hk12)
  replace Ib := hide (Ib.out.non hk12)
  replace Rm := hide (Rm.out.non hk12)
  replace HK := hide (HK.out.then hk12)
  clear hk12 C12
  have C13 := hide (countR_c (cap := cap) Ip.out P1.out hn31 kq HKq.out)
  go_wp2_with fail
  refine C13.out.mono ?_
  rintro e x13 ⟨rfl, hk13⟩
  replace Ip := hide (Ip.out.non hk13)
  replace Iq := hide (Iq.out.non hk13)
  replace Ia := hide (Ia.out.non hk13)
  replace Ib := hide (Ib.out.non hk13)
  replace Rm := hide (Rm.out.non hk13)
  replace HK := hide (HK.out.then hk13)
  clear hk13 C13
  have C14 := hide (membersR_l a n cap p x13 Ip.out P1.out hn31)
  go_wp2_with fail
  refine C14.out.mono ?_
  rintro e x14 ⟨_, rfl, am, cm, rfl, hRm, hk14⟩
  replace Ip := hide (Ip.out.non hk14)
  replace Iq := hide (Iq.out.non hk14)
  replace Ia := hide (Ia.out.non hk14)
  replace Ib := hide (Ib.out.non hk14)
  replace Rm := hide (Rm.out.non hk14)
  replace HK := hide (HK.out.then hk14)
  have RM := hide hRm
  rw [HLm.out] at RM ⊢
  clear hk14 C14 hRm
  have hL := lists_l (some ⟨g1, 0, none⟩) kq kq _ am kq cm _ x14 Rm.out RM.out
  rw [decide_eq_true rfl] at hL
  have HL := hide hL
  clear hL
  have C15 := hide (HL.out)
  go_wp2_with fail
  refine C15.out.mono ?_
  rintro e x15 ⟨rfl, hk15⟩
  replace Ip := hide (Ip.out.non hk15)
  replace Iq := hide (Iq.out.non hk15)
  replace Ia := hide (Ia.out.non hk15)
  replace Ib := hide (Ib.out.non hk15)
  replace Rm := hide (Rm.out.non hk15)
  replace RM := hide (RM.out.non hk15)
  replace HK := hide (HK.out.then hk15)
  clear hk15 C15
  clear HL
  have C16 := hide (rightR_l b m cap2 q true x15 Iq.out HR2.out)
  go_wp2_with fail
  refine C16.out.mono ?_
  rintro e x16 ⟨rfl, hk16⟩
  replace Ip := hide (Ip.out.non hk16)
  replace Iq := hide (Iq.out.non hk16)
  replace Ia := hide (Ia.out.non hk16)
  replace Ib := hide (Ib.out.non hk16)
  replace Rm := hide (Rm.out.non hk16)
  replace RM := hide (RM.out.non hk16)
  replace HK := hide (HK.out.then hk16)
  clear hk16 C16
  go_wp2_with fail
  go_ret
  exact ⟨rfl, HK.out⟩
theorem pairs_any (a b : Option Addr) (n m cap cap2 : Nat) (p q : List Int) (w : World) (h : Ints w a n p) (h2 : Ints w b m q) (hg : Good p) (hg2 : Good q) (hn : n ≤ 1000) (hm : m ≤ 1000) :
    Calls Try.prog 38 #[.slice a n cap, .slice b m cap2] w fun e w' => e = .returned (.bool true) ∧ Keeps Non w w' := by
  cases hr : rightB p with
  | false => exact pairs_no1 a b n m cap cap2 p q w h h2 hg hg2 hn hm hr
  | true =>
    cases hr2 : rightB q with
    | false => exact pairs_no2 a b n m cap cap2 p q w h h2 hg hg2 hn hm hr hr2
    | true =>
      by_cases hnm : n = m
      · subst hnm
        exact pairs_ok a b n cap cap2 p q w h h2 ⟨h.len, (rightB_iff.1 hr).2⟩ ⟨h2.len, (rightB_iff.1 hr2).2⟩ (by omega)
      · exact pairs_no3 a b n m cap cap2 p q w h h2 hg hg2 hn hm hr hr2 hnm
theorem law_pairs (a b : Option Addr) (n cap m cap2 : Nat) (xs ys : List Int) (w : World) (h : RawI w a n xs) (h2 : RawI w b m ys) :
    Calls Try.prog 10 #[.slice a n cap, .slice b m cap2] w fun e w' => e = .returned (.bool true) ∧ Keeps Non w w' := by
  have hn := h.lim
  have hm := h2.lim
  have HA := hide awake_l
  by_cases q1 : 60 < n
  · have i1 : (60 : Int) < (n : Int) := by omega
    clear h h2
    go_enter Try.func10, Try.ntmps10
    go_wp2_with fail
    refine (HA.out w).mono ?_
    rintro e w2 ⟨rfl, hk⟩
    go_wp2_with fail
    go_ret
    exact ⟨rfl, hk⟩
  · have i1 : decide ((60 : Int) < (n : Int)) = false := by simp; omega
    by_cases q2 : 60 < m
    · have i2 : (60 : Int) < (m : Int) := by omega
      clear h h2
      go_enter Try.func10, Try.ntmps10
      go_wp2_with fail
      refine (HA.out w).mono ?_
      rintro e w2 ⟨rfl, hk⟩
      go_wp2_with fail
      go_ret
      exact ⟨rfl, hk⟩
    · have i2 : decide ((60 : Int) < (m : Int)) = false := by simp; omega
      have HP := hide (pairs_any a b n m cap cap2 xs ys w (h.ints (by omega)) (h2.ints (by omega)) h.good h2.good (by omega) (by omega))
      clear h h2 q1 q2
      go_enter Try.func10, Try.ntmps10
      go_wp2_with fail
      refine HP.out.mono ?_
      rintro e w2 ⟨rfl, hk⟩
      have HK := hide hk
      clear hk
      go_wp2_with fail
      refine (HA.out w2).mono ?_
      rintro e w3 ⟨rfl, hk3⟩
      go_wp2_with fail
      go_ret
      exact ⟨rfl, HK.out.then hk3⟩
end Go.Proofs.Ytkcbahfmdokalaa
