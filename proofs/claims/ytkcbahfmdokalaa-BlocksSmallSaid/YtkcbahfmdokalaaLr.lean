/-
  The walk over BlocksRefines. No condition beyond the row's own.
-/
import Derived.Test.YtkcbahfmdokalaaCt
namespace Go.Proofs.Ytkcbahfmdokalaa
open Go.RowKit
attribute [local go_sem] onto_cell onto_frozen
set_option linter.unusedVariables false
theorem follows_c (n : Nat) (a : Option Addr) (m cap : Nat) (zs : List Int) (w : World) (h : Byts w a m zs) (hn : n ≤ 1000) :
    Calls Try.prog 26 #[.int .i64 n, .slice a m cap] w fun e w' => ∃ g, e = .returned (.slice (some ⟨g, 0, none⟩) n n) ∧ Rows w' (some ⟨g, 0, none⟩) n (followsL n zs) ∧ Keeps Non w w' :=
  (follows_l n a m cap zs w h hn).mono fun e w' ⟨v, h1, h2⟩ => by
    obtain ⟨B, S, rfl, _, h3, h4⟩ := h2
    have hl := (followsL_ok n zs hn (fun i => (h.bd i).1))
    have hR := h3.rows (by rw [hl.1]; omega) (fun i => by
      by_cases hi : i < (followsL n zs).length
      · have := (hl.2 _ (getD_mem (d := []) hi)).1
        omega
      · rw [List.getD_eq_getElem?_getD, List.getElem?_eq_none (by omega)]
        simp)
    rw [hl.1] at h1 hR
    exact ⟨B, h1, hR, h4⟩
set_option maxRecDepth 100000 in
set_option maxHeartbeats 16000000 in
theorem law_refines (a b c : Option Addr) (n1 d1 n2 d2 n3 d3 : Nat) (xs ys zs : List Int) (w : World) (h1 : BySl w a n1 d1 xs) (h2 : BySl w b n2 d2 ys) (h3 : BySl w c n3 d3 zs) :
    Calls Try.prog 8 #[.slice a n1 d1, .slice b n2 d2, .slice c n3 d3] w fun e w' => e = .returned (.bool true) ∧ Keeps Non w w' := by
  obtain ⟨m, hm⟩ : ∃ m, min (min n1 n2) 30 = m := ⟨_, rfl⟩
  have hT := two_l a b n1 d1 n2 d2 xs ys w h1 h2
  rw [hm] at hT
  have P1 : Hid (Pt m (madeL (xs.take m))) := pt_made (by rw [h1.by'.len]; omega) (by omega)
  have P2 : Hid (Pt m (madeL (ys.take m))) := pt_made (by rw [h2.by'.len]; omega) (by omega)
  have HB := hide h3.by'
  have HNx := hide (followsL_ok m zs (by omega) (fun i => (h3.by'.bd i).1))
  have hm30 : m ≤ 1000 := by omega
  have hm31 : m ≤ 1024 := by omega
  have hbig := h3.by'.big
  have HT := hide hT
  clear h1 h2 h3 hm hT
  go_enter Try.func8, Try.ntmps8
  go_wp2_with fail
  refine HT.out.mono ?_
  rintro e x0 ⟨a1, c1, a2, c2, rfl, i1, i2, k0⟩
  obtain ⟨p, hp⟩ : ∃ p, madeL (xs.take m) = p := ⟨_, rfl⟩
  obtain ⟨q, hq⟩ : ∃ p, madeL (ys.take m) = p := ⟨_, rfl⟩
  obtain ⟨nx, hnx⟩ : ∃ p, followsL m zs = p := ⟨_, rfl⟩
  have HX := hide hnx
  rw [hp] at i1 P1
  rw [hq] at i2 P2
  rw [hnx] at HNx
  replace HB := hide (HB.out.non k0)
  have Ip := hide i1
  have Iq := hide i2
  have HK := hide k0
  clear HT hp hq i1 i2 k0 hnx
  have PM : Hid (Pt m (meetL p q)) := meet_pt P1.out P2.out
  have PA : Hid (Pt m (refineL p nx)) := refine_pt P1.out HNx.out.1
  have PB : Hid (Pt m (refineL (meetL p q) nx)) := refine_pt PM.out HNx.out.1
  have C1 := hide (meet_c (cap := c1) (cap2 := c2) Ip.out Iq.out P1.out P2.out hm31)
  go_wp2_with fail
  refine C1.out.mono ?_
  rintro e x1 ⟨g1, rfl, hI, hk1⟩
  replace Ip := hide (Ip.out.non hk1)
  replace Iq := hide (Iq.out.non hk1)
  replace HB := hide (HB.out.non hk1)
  have Im := hide hI
  replace HK := hide (HK.out.then hk1)
  clear hk1 C1 hI
  have C2 := hide (follows_c m c n3 d3 zs x1 HB.out hm30)
  go_wp2_with fail
  refine C2.out.mono ?_
  rintro e x2 ⟨g2, rfl, hI, hk2⟩
  replace Ip := hide (Ip.out.non hk2)
  replace Iq := hide (Iq.out.non hk2)
  replace HB := hide (HB.out.non hk2)
  replace Im := hide (Im.out.non hk2)
  replace HK := hide (HK.out.then hk2)
  rw [HX.out] at hI
  have Rn := hide hI
  clear hk2 C2 hI
  clear HB
  have C3 := hide (refine_c (cap := c1) (cap2 := m) Ip.out Rn.out P1.out HNx.out hm31)
  go_wp2_with fail
  refine C3.out.mono ?_
  rintro e x3 ⟨g3, rfl, hI, hk3⟩
  replace Ip := hide (Ip.out.non hk3)
  replace Iq := hide (Iq.out.non hk3)
  replace Im := hide (Im.out.non hk3)
  replace Rn := hide (Rn.out.non hk3)
  have Ia := hide hI
  replace HK := hide (HK.out.then hk3)
  clear hk3 C3 hI
  have C4 := hide (refine_c (cap := m) (cap2 := m) Im.out Rn.out PM.out HNx.out hm31)
  go_wp2_with fail
  refine C4.out.mono ?_
  rintro e x4 ⟨g4, rfl, hI, hk4⟩
  replace Ip := hide (Ip.out.non hk4)
  replace Iq := hide (Iq.out.non hk4)
  replace Im := hide (Im.out.non hk4)
  replace Rn := hide (Rn.out.non hk4)
  replace Ia := hide (Ia.out.non hk4)
  have Ib := hide hI
  replace HK := hide (HK.out.then hk4)
  clear hk4 C4 hI
  obtain ⟨v, hv⟩ : ∃ v, decide (refineL p nx = p) = v := ⟨_, rfl⟩
  have HV := hide hv
  have hcc : decide (cnt (refineL p nx) = cnt p) = v := by
    rw [← hv]
    exact decide_eq_decide.2 (stable_cnt P1.out HNx.out.1)
  have HCC := hide hcc
  obtain ⟨k1, hk1⟩ : ∃ k, cnt p = k := ⟨_, rfl⟩
  obtain ⟨k2, hk2⟩ : ∃ k, cnt (refineL p nx) = k := ⟨_, rfl⟩
  rw [hk1, hk2] at HCC
  have HK1 := hide hk1
  have HK2 := hide hk2
  have hle : k1 ≤ k2 := by
    have := cnt_refine (p := p) (next := nx) (by rw [HNx.out.1, P1.out.len])
    omega
  have hle2 := cnt_le_length (refineL p nx)
  rw [PA.out.len] at hle2
  have hk22 : k2 ≤ 1024 := by omega
  clear hv hcc hk1 hk2 hle2
  have C5 := hide (stable_c (cap := c1) (cap2 := m) Ip.out Rn.out P1.out HNx.out hm31 v HV.out)
  go_wp2_with fail
  refine C5.out.mono ?_
  rintro e x5 ⟨rfl, hk5⟩
  replace Ip := hide (Ip.out.non hk5)
  replace Iq := hide (Iq.out.non hk5)
  replace Im := hide (Im.out.non hk5)
  replace Rn := hide (Rn.out.non hk5)
  replace Ia := hide (Ia.out.non hk5)
  replace Ib := hide (Ib.out.non hk5)
  replace HK := hide (HK.out.then hk5)
  clear hk5 C5
  have C6 := hide (finer_c (cap := m) (cap2 := c1) Ia.out Ip.out PA.out P1.out hm31 true (decide_eq_true ((finer_iff PA.out P1.out).2 (refine_fin P1.out HNx.out.1))))
  go_wp2_with fail
  refine C6.out.mono ?_
  rintro e x6 ⟨rfl, hk6⟩
  replace Ip := hide (Ip.out.non hk6)
  replace Iq := hide (Iq.out.non hk6)
  replace Im := hide (Im.out.non hk6)
  replace Rn := hide (Rn.out.non hk6)
  replace Ia := hide (Ia.out.non hk6)
  replace Ib := hide (Ib.out.non hk6)
  replace HK := hide (HK.out.then hk6)
  clear hk6 C6
  have C7 := hide (finer_c (cap := m) (cap2 := m) Ib.out Ia.out PB.out PA.out hm31 true (decide_eq_true ((finer_iff PB.out PA.out).2 (refine_mono PM.out P1.out HNx.out (fun i j hi hj he => ((meet_ker P1.out P2.out hi hj).1 he).1)))))
  go_wp2_with fail
  refine C7.out.mono ?_
  rintro e x7 ⟨rfl, hk7⟩
  replace Ip := hide (Ip.out.non hk7)
  replace Iq := hide (Iq.out.non hk7)
  replace Im := hide (Im.out.non hk7)
  replace Rn := hide (Rn.out.non hk7)
  replace Ia := hide (Ia.out.non hk7)
  replace Ib := hide (Ib.out.non hk7)
  replace HK := hide (HK.out.then hk7)
  clear hk7 C7
  have C8 := hide (count_c (cap := c1) Ip.out P1.out hm31 k1 HK1.out)
  go_wp2_with fail
  refine C8.out.mono ?_
  rintro e x8 ⟨rfl, hk8⟩
  replace Ip := hide (Ip.out.non hk8)
  replace Iq := hide (Iq.out.non hk8)
  replace Im := hide (Im.out.non hk8)
  replace Rn := hide (Rn.out.non hk8)
  replace Ia := hide (Ia.out.non hk8)
  replace Ib := hide (Ib.out.non hk8)
  replace HK := hide (HK.out.then hk8)
  clear hk8 C8
  have C9 := hide (count_c (cap := m) Ia.out PA.out hm31 k2 HK2.out)
  go_wp2_with fail
  refine C9.out.mono ?_
  rintro e x9 ⟨rfl, hk9⟩
  replace Ip := hide (Ip.out.non hk9)
  replace Iq := hide (Iq.out.non hk9)
  replace Im := hide (Im.out.non hk9)
  replace Rn := hide (Rn.out.non hk9)
  replace Ia := hide (Ia.out.non hk9)
  replace Ib := hide (Ib.out.non hk9)
  replace HK := hide (HK.out.then hk9)
  clear hk9 C9
  have hge : (k1 : Int) ≤ (k2 : Int) := by omega
  cases v with
  | true =>
    have he : k2 = k1 := by simpa using HCC.out
    subst he
    have C10 := hide (equal_c (cap := m) (cap2 := c1) Ia.out Ip.out true HV.out)
    go_wp2_with fail
    refine C10.out.mono ?_
    rintro e x10 ⟨rfl, hk10⟩
    replace Ip := hide (Ip.out.non hk10)
    replace Iq := hide (Iq.out.non hk10)
    replace Im := hide (Im.out.non hk10)
    replace Rn := hide (Rn.out.non hk10)
    replace Ia := hide (Ia.out.non hk10)
    replace Ib := hide (Ib.out.non hk10)
    replace HK := hide (HK.out.then hk10)
    clear hk10 C10
    have C11 := hide (awake_l x10)
    go_wp2_with fail
    refine C11.out.mono ?_
    rintro e x11 ⟨rfl, hk11⟩
    replace Ip := hide (Ip.out.non hk11)
    replace Iq := hide (Iq.out.non hk11)
    replace Im := hide (Im.out.non hk11)
    replace Rn := hide (Rn.out.non hk11)
    replace Ia := hide (Ia.out.non hk11)
    replace Ib := hide (Ib.out.non hk11)
    replace HK := hide (HK.out.then hk11)
    clear hk11 C11
    go_wp2_with fail
    go_ret
    exact ⟨rfl, HK.out⟩
  | false =>
    have he : ¬ k2 = k1 := by simpa using HCC.out
    have hne : ((k2 : Int) == (k1 : Int)) = false := by simp; omega
    have C10 := hide (equal_c (cap := m) (cap2 := c1) Ia.out Ip.out false HV.out)
    go_wp2_with fail
    refine C10.out.mono ?_
    rintro e x10 ⟨rfl, hk10⟩
    replace Ip := hide (Ip.out.non hk10)
    replace Iq := hide (Iq.out.non hk10)
    replace Im := hide (Im.out.non hk10)
    replace Rn := hide (Rn.out.non hk10)
    replace Ia := hide (Ia.out.non hk10)
    replace Ib := hide (Ib.out.non hk10)
    replace HK := hide (HK.out.then hk10)
    clear hk10 C10
    have C11 := hide (awake_l x10)
    go_wp2_with fail
    refine C11.out.mono ?_
    rintro e x11 ⟨rfl, hk11⟩
    replace Ip := hide (Ip.out.non hk11)
    replace Iq := hide (Iq.out.non hk11)
    replace Im := hide (Im.out.non hk11)
    replace Rn := hide (Rn.out.non hk11)
    replace Ia := hide (Ia.out.non hk11)
    replace Ib := hide (Ib.out.non hk11)
    replace HK := hide (HK.out.then hk11)
    clear hk11 C11
    go_wp2_with fail
    go_ret
    exact ⟨rfl, HK.out⟩
end Go.Proofs.Ytkcbahfmdokalaa
