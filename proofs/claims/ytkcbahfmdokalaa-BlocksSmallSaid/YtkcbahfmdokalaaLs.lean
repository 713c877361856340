/-
  The walk over layer 6's statements: steps, BlocksSteps. No condition beyond the row's own.
-/
import Derived.Test.YtkcbahfmdokalaaRi
import Derived.Test.YtkcbahfmdokalaaCt
import Derived.Test.YtkcbahfmdokalaaOp
namespace Go.Proofs.Ytkcbahfmdokalaa
open Go.RowKit
attribute [local go_sem] onto_cell onto_frozen
set_option linter.unusedVariables false
theorem ent45 : Ent 45 := ent_of Try.func45 (by decide) rfl
def longL (l : List Int) : Bool := decide (70 < l.length)
theorem few1_l (q : Nat) (ai : Option Addr) (ci : Nat) (w : World) (hq : q ≤ 9223372036854775807) (v : Bool) (hv : decide (70 < q) = v) :
    Calls Try.prog 45 #[.slice ai q ci] w fun e w' => e = .returned (.bool v) ∧ Keeps Non w w' := by
  have HV := hide hv
  clear hv
  by_cases h : 70 < q
  · have h1 : (70 : Int) < (q : Int) := by omega
    have HE : Hid (v = true) := by show _ = _; rw [← HV.out]; simpa using h
    clear h
    go_enter Try.func45, Try.ntmps45
    go_wp2_with fail
    go_ret
    exact ⟨ret_bool HE.out.symm, Keeps.refl _ _⟩
  · have h1 : ¬ (70 : Int) < (q : Int) := by omega
    have HE : Hid (v = false) := by show _ = _; rw [← HV.out]; simpa using h
    clear h
    go_enter Try.func45, Try.ntmps45
    go_wp2_with fail
    go_ret
    exact ⟨ret_bool HE.out.symm, Keeps.refl _ _⟩
def fewB (xss : List (List Int)) : Bool := decide (xss.length ≤ 40) && !xss.any longL
theorem few_l (b : Option Addr) (m cap2 : Nat) (xss : List (List Int)) (v : Bool) (w : World) (h : RowsU w b m xss) (hv : fewB xss = v) :
    Calls Try.prog 23 #[.slice b m cap2] w fun e w' => e = .returned (.bool v) ∧ Keeps Non w w' := by
  have hm := h.lim
  have hl := h.len
  obtain ⟨u, hu⟩ : ∃ u, xss.any longL = u := ⟨_, rfl⟩
  have hC := contains_rows (fun _ _ l => l.length ≤ 9223372036854775807) b m cap2 xss 45 #[] longL w ent45 h.g (fun l ai ci w' hR hk => few1_l l.length ai ci w' hR _ rfl)
  rw [hu] at hC
  have HC := hide hC
  have HV := hide hv
  have HU := hide hu
  have HL := hide hl
  clear h hC hv hu hl
  by_cases h40 : m ≤ 40
  · have h1 : (m : Int) ≤ 40 := by omega
    have HE : Hid (v = !u) := by
      show _ = _
      rw [← HV.out, fewB, HU.out, decide_eq_true (by rw [HL.out]; exact h40)]
      rfl
    clear h40
    go_enter Try.func23, Try.ntmps23
    go_wp2_with fail
    refine HC.out.mono ?_
    rintro e w2 ⟨rfl, hk⟩
    go_wp2_with fail
    go_ret
    exact ⟨ret_bool HE.out.symm, hk⟩
  · have h1 : decide ((m : Int) ≤ 40) = false := by simp; omega
    have HE : Hid (v = false) := by
      show _ = _
      rw [← HV.out, fewB, decide_eq_false (by rw [HL.out]; exact h40)]
      rfl
    clear h40
    go_enter Try.func23, Try.ntmps23
    go_wp2_with fail
    go_ret
    exact ⟨ret_bool HE.out.symm, Keeps.refl _ _⟩
theorem fewB_iff {xss : List (List Int)} (h : fewB xss = true) : xss.length ≤ 40 ∧ ∀ i, (xss.getD i []).length ≤ 70 := by
  unfold fewB at h
  simp only [Bool.and_eq_true, decide_eq_true_eq, Bool.not_eq_true', List.any_eq_false] at h
  refine ⟨h.1, fun i => ?_⟩
  by_cases hi : i < xss.length
  · have := h.2 _ (getD_mem (d := []) hi)
    unfold longL at this
    simp only [decide_eq_true_eq] at this
    omega
  · rw [List.getD_eq_getElem?_getD, List.getElem?_eq_none (by omega)]
    simp
theorem wrongE_1 {p : List Int} {next : List (List Int)} (h : rightB p = false) : wrongE p next = 60 := by
  unfold wrongE
  rw [if_neg (by rw [h]; simp)]
theorem wrongE_2 {p : List Int} {next : List (List Int)} (h : rightB p = true) (hn : ¬ NextOk p.length next) : wrongE p next = 61 := by
  have h1 : ¬ wrongE p next = 0 := fun h0 => hn (wrongE_ok h0).2
  unfold wrongE at *
  rw [if_pos h] at *
  split
  · rfl
  · rename_i h2
    rw [if_neg h2] at h1
    exact absurd rfl h1
theorem nextR_c {b : Option Addr} {n m cap2 : Nat} {next : List (List Int)} (v : Bool) {w : World} (h2 : Rows w b m next) (hn : n ≤ 1024) (hs : ∀ i, (next.getD i []).length ≤ 1000000) (hv : nextB n next = v) :
    Calls Try.prog 48 #[.int .i64 n, .slice b m cap2] w fun e w' => e = .returned (.bool v) ∧ Keeps Non w w' :=
  (nextR_l b n m cap2 next v w h2 hn hs hv).mono fun e w' ⟨h1, h3⟩ => ⟨h1, by rw [h3]; exact Keeps.refl _ _⟩
theorem coarsestR_c {n : Nat} {p : List Int} {next : List (List Int)} {w : World} {a b : Option Addr} {cap cap2 : Nat} (h : Ints w a n p) (h2 : Rows w b n next) (hp : Pt n p) (hl : NextOk n next) (hn : n ≤ 1024) (c : List Int) (k : Nat) (hc : coarseL p next = (c, k)) :
    Calls Try.prog 49 #[.slice a n cap, .slice b n cap2] w fun e w' => ∃ g d, e = .returned (.tuple #[.slice g n d, .int .i64 k]) ∧ Ints w' g n c ∧ Keeps Non w w' :=
  (coarsestR_l a b n cap cap2 p next w h h2 hp hl hn).mono fun e w' ⟨g, d, h1, h3, h4⟩ => by
    rw [hc] at h1 h3
    exact ⟨g, d, h1, h3, h4⟩
set_option maxRecDepth 100000 in
set_option maxHeartbeats 16000000 in
theorem steps_no1 (a b : Option Addr) (n m cap cap2 : Nat) (p : List Int) (next : List (List Int)) (w : World) (h : Ints w a n p) (h2 : Rows w b m next) (hg : Good p) (hn : n ≤ 1000) (hm : m ≤ 1000) (hs : ∀ i, (next.getD i []).length ≤ 1000) (hr : rightB p = false) :
    Calls Try.prog 24 #[.slice a n cap, .slice b m cap2] w fun e w' => e = .returned (.bool true) ∧ Keeps Non w w' := by
  have HB := hide (wrongE_1 (next := next) hr)
  have HR := hide hr
  clear hr
  have HG := hide hg
  have HS := hide hs
  have HNl : Hid (next.length = m) := h2.len
  have Ip := hide h
  have Rn := hide h2
  have HK := hide (Keeps.refl Non w)
  clear h h2 hg hs
  go_enter Try.func24, Try.ntmps24
  have C1 := hide (clone_own a n cap p w Ip.out (by omega))
  go_wp2_with fail
  refine C1.out.mono ?_
  rintro e x1 ⟨_, rfl, ho, hk1⟩
  replace Ip := hide (Ip.out.non hk1)
  replace Rn := hide (Rn.out.non hk1)
  replace HK := hide (HK.out.then hk1)
  obtain ⟨a1, c1, rfl, hI⟩ := ints_of_owns ho (by omega)
  have Ia := hide hI
  clear hk1 C1 ho hI
  have C2 := hide (copied_l b m cap2 next x1 Rn.out (by omega) (fun i => by have := HS.out i; omega))
  go_wp2_with fail
  refine C2.out.mono ?_
  rintro e x2 ⟨_, rfl, a2, c2, rfl, hR, hk2⟩
  replace Ip := hide (Ip.out.non hk2)
  replace Rn := hide (Rn.out.non hk2)
  replace Ia := hide (Ia.out.non hk2)
  replace HK := hide (HK.out.then hk2)
  rw [HNl.out] at hR ⊢
  have Ra := hide hR
  clear hk2 C2 hR
  have C3 := hide (refine_no a1 a2 n c1 m c2 p next x2 Ia.out Ra.out HG.out 60 HB.out (by decide))
  go_wp2_with fail
  refine C3.out.mono ?_
  rintro e x3 ⟨rfl, hk3⟩
  replace Ip := hide (Ip.out.non hk3)
  replace Rn := hide (Rn.out.non hk3)
  replace Ia := hide (Ia.out.non hk3)
  replace Ra := hide (Ra.out.non hk3)
  replace HK := hide (HK.out.then hk3)
  clear hk3 C3
  have C4 := hide (stable_no a1 a2 n c1 m c2 p next x3 Ia.out Ra.out HG.out 60 HB.out (by decide))
  go_wp2_with fail
  refine C4.out.mono ?_
  rintro e x4 ⟨rfl, hk4⟩
  replace Ip := hide (Ip.out.non hk4)
  replace Rn := hide (Rn.out.non hk4)
  replace Ia := hide (Ia.out.non hk4)
  replace Ra := hide (Ra.out.non hk4)
  replace HK := hide (HK.out.then hk4)
  clear hk4 C4
  have C5 := hide (coarsest_no a1 a2 n c1 m c2 p next x4 Ia.out Ra.out HG.out 60 HB.out (by decide))
  go_wp2_with fail
  refine C5.out.mono ?_
  rintro e x5 ⟨rfl, hk5⟩
  replace Ip := hide (Ip.out.non hk5)
  replace Rn := hide (Rn.out.non hk5)
  replace Ia := hide (Ia.out.non hk5)
  replace Ra := hide (Ra.out.non hk5)
  replace HK := hide (HK.out.then hk5)
  clear hk5 C5
  have C6 := hide (quotient_no a1 a2 n c1 m c2 p next x5 Ia.out Ra.out HG.out 60 HB.out (by decide))
  go_wp2_with fail
  refine C6.out.mono ?_
  rintro e x6 ⟨rfl, hk6⟩
  replace Ip := hide (Ip.out.non hk6)
  replace Rn := hide (Rn.out.non hk6)
  replace Ia := hide (Ia.out.non hk6)
  replace Ra := hide (Ra.out.non hk6)
  replace HK := hide (HK.out.then hk6)
  clear hk6 C6
  have C7 := hide (equal_c (cap := c1) (cap2 := cap) Ia.out Ip.out true (decide_eq_true rfl))
  go_wp2_with fail
  refine C7.out.mono ?_
  rintro e x7 ⟨rfl, hk7⟩
  replace Ip := hide (Ip.out.non hk7)
  replace Rn := hide (Rn.out.non hk7)
  replace Ia := hide (Ia.out.non hk7)
  replace Ra := hide (Ra.out.non hk7)
  replace HK := hide (HK.out.then hk7)
  clear hk7 C7
  have hL := lists_l a2 m c2 _ b m cap2 _ x7 Ra.out Rn.out
  rw [decide_eq_true rfl] at hL
  have HL := hide hL
  clear hL
  have C8 := hide (HL.out)
  go_wp2_with fail
  refine C8.out.mono ?_
  rintro e x8 ⟨rfl, hk8⟩
  replace Ip := hide (Ip.out.non hk8)
  replace Rn := hide (Rn.out.non hk8)
  replace Ia := hide (Ia.out.non hk8)
  replace Ra := hide (Ra.out.non hk8)
  replace HK := hide (HK.out.then hk8)
  clear hk8 C8
  clear HL
  have C9 := hide (rightR_l a n cap p false x8 Ip.out HR.out)
  go_wp2_with fail
  refine C9.out.mono ?_
  rintro e x9 ⟨rfl, hk9⟩
  replace Ip := hide (Ip.out.non hk9)
  replace Rn := hide (Rn.out.non hk9)
  replace Ia := hide (Ia.out.non hk9)
  replace Ra := hide (Ra.out.non hk9)
  replace HK := hide (HK.out.then hk9)
  clear hk9 C9
  go_wp2_with fail
  go_ret
  exact ⟨rfl, HK.out⟩
set_option maxRecDepth 100000 in
set_option maxHeartbeats 16000000 in
theorem steps_no2 (a b : Option Addr) (n m cap cap2 : Nat) (p : List Int) (next : List (List Int)) (w : World) (h : Ints w a n p) (h2 : Rows w b m next) (hg : Good p) (hn : n ≤ 1000) (hm : m ≤ 1000) (hs : ∀ i, (next.getD i []).length ≤ 1000) (hr : rightB p = true) (hno : ¬ NextOk n next) :
    Calls Try.prog 24 #[.slice a n cap, .slice b m cap2] w fun e w' => e = .returned (.bool true) ∧ Keeps Non w w' := by
  have HB : Hid (wrongE p next = 61) := wrongE_2 hr (by rw [h.len]; exact hno)
  have HR := hide hr
  have HNo := hide (nextB_no hno)
  clear hr hno
  have HG := hide hg
  have HS := hide hs
  have HNl : Hid (next.length = m) := h2.len
  have Ip := hide h
  have Rn := hide h2
  have HK := hide (Keeps.refl Non w)
  clear h h2 hg hs
  go_enter Try.func24, Try.ntmps24
  have C1 := hide (clone_own a n cap p w Ip.out (by omega))
  go_wp2_with fail
  refine C1.out.mono ?_
  rintro e x1 ⟨_, rfl, ho, hk1⟩
  replace Ip := hide (Ip.out.non hk1)
  replace Rn := hide (Rn.out.non hk1)
  replace HK := hide (HK.out.then hk1)
  obtain ⟨a1, c1, rfl, hI⟩ := ints_of_owns ho (by omega)
  have Ia := hide hI
  clear hk1 C1 ho hI
  have C2 := hide (copied_l b m cap2 next x1 Rn.out (by omega) (fun i => by have := HS.out i; omega))
  go_wp2_with fail
  refine C2.out.mono ?_
  rintro e x2 ⟨_, rfl, a2, c2, rfl, hR, hk2⟩
  replace Ip := hide (Ip.out.non hk2)
  replace Rn := hide (Rn.out.non hk2)
  replace Ia := hide (Ia.out.non hk2)
  replace HK := hide (HK.out.then hk2)
  rw [HNl.out] at hR ⊢
  have Ra := hide hR
  clear hk2 C2 hR
  have C3 := hide (refine_no a1 a2 n c1 m c2 p next x2 Ia.out Ra.out HG.out 61 HB.out (by decide))
  go_wp2_with fail
  refine C3.out.mono ?_
  rintro e x3 ⟨rfl, hk3⟩
  replace Ip := hide (Ip.out.non hk3)
  replace Rn := hide (Rn.out.non hk3)
  replace Ia := hide (Ia.out.non hk3)
  replace Ra := hide (Ra.out.non hk3)
  replace HK := hide (HK.out.then hk3)
  clear hk3 C3
  have C4 := hide (stable_no a1 a2 n c1 m c2 p next x3 Ia.out Ra.out HG.out 61 HB.out (by decide))
  go_wp2_with fail
  refine C4.out.mono ?_
  rintro e x4 ⟨rfl, hk4⟩
  replace Ip := hide (Ip.out.non hk4)
  replace Rn := hide (Rn.out.non hk4)
  replace Ia := hide (Ia.out.non hk4)
  replace Ra := hide (Ra.out.non hk4)
  replace HK := hide (HK.out.then hk4)
  clear hk4 C4
  have C5 := hide (coarsest_no a1 a2 n c1 m c2 p next x4 Ia.out Ra.out HG.out 61 HB.out (by decide))
  go_wp2_with fail
  refine C5.out.mono ?_
  rintro e x5 ⟨rfl, hk5⟩
  replace Ip := hide (Ip.out.non hk5)
  replace Rn := hide (Rn.out.non hk5)
  replace Ia := hide (Ia.out.non hk5)
  replace Ra := hide (Ra.out.non hk5)
  replace HK := hide (HK.out.then hk5)
  clear hk5 C5
  have C6 := hide (quotient_no a1 a2 n c1 m c2 p next x5 Ia.out Ra.out HG.out 61 HB.out (by decide))
  go_wp2_with fail
  refine C6.out.mono ?_
  rintro e x6 ⟨rfl, hk6⟩
  replace Ip := hide (Ip.out.non hk6)
  replace Rn := hide (Rn.out.non hk6)
  replace Ia := hide (Ia.out.non hk6)
  replace Ra := hide (Ra.out.non hk6)
  replace HK := hide (HK.out.then hk6)
  clear hk6 C6
  have C7 := hide (equal_c (cap := c1) (cap2 := cap) Ia.out Ip.out true (decide_eq_true rfl))
  go_wp2_with fail
  refine C7.out.mono ?_
  rintro e x7 ⟨rfl, hk7⟩
  replace Ip := hide (Ip.out.non hk7)
  replace Rn := hide (Rn.out.non hk7)
  replace Ia := hide (Ia.out.non hk7)
  replace Ra := hide (Ra.out.non hk7)
  replace HK := hide (HK.out.then hk7)
  clear hk7 C7
  have hL := lists_l a2 m c2 _ b m cap2 _ x7 Ra.out Rn.out
  rw [decide_eq_true rfl] at hL
  have HL := hide hL
  clear hL
  have C8 := hide (HL.out)
  go_wp2_with fail
  refine C8.out.mono ?_
  rintro e x8 ⟨rfl, hk8⟩
  replace Ip := hide (Ip.out.non hk8)
  replace Rn := hide (Rn.out.non hk8)
  replace Ia := hide (Ia.out.non hk8)
  replace Ra := hide (Ra.out.non hk8)
  replace HK := hide (HK.out.then hk8)
  clear hk8 C8
  clear HL
  have C9 := hide (rightR_l a n cap p true x8 Ip.out HR.out)
  go_wp2_with fail
  refine C9.out.mono ?_
  rintro e x9 ⟨rfl, hk9⟩
  replace Ip := hide (Ip.out.non hk9)
  replace Rn := hide (Rn.out.non hk9)
  replace Ia := hide (Ia.out.non hk9)
  replace Ra := hide (Ra.out.non hk9)
  replace HK := hide (HK.out.then hk9)
  clear hk9 C9
  have C10 := hide (nextR_c (cap2 := cap2) false Rn.out (by omega) (fun i => by have := HS.out i; omega) HNo.out)
  go_wp2_with fail
  refine C10.out.mono ?_
  rintro e x10 ⟨rfl, hk10⟩
  replace Ip := hide (Ip.out.non hk10)
  replace Rn := hide (Rn.out.non hk10)
  replace Ia := hide (Ia.out.non hk10)
  replace Ra := hide (Ra.out.non hk10)
  replace HK := hide (HK.out.then hk10)
  clear hk10 C10
  go_wp2_with fail
  go_ret
  exact ⟨rfl, HK.out⟩

set_option maxRecDepth 100000 in
set_option maxHeartbeats 16000000 in
theorem steps_yes (a b : Option Addr) (n cap cap2 : Nat) (p : List Int) (next : List (List Int)) (w : World) (h : Ints w a n p) (h2 : Rows w b n next) (hg : Good p) (hn : n ≤ 1000) (hm : n ≤ 1000) (hs : ∀ i, (next.getD i []).length ≤ 1000) (hp : Pt n p) (hno : NextOk n next) (hst : refineL p next = p) :
    Calls Try.prog 24 #[.slice a n cap, .slice b n cap2] w fun e w' => e = .returned (.bool true) ∧ Keeps Non w w' := by
  have P1 := hide hp
  have HNx := hide hno
  have HR := hide (pt_right hp (by omega))
  have HNb := hide (nextB_iff.2 hno)
  obtain ⟨c, hc⟩ : ∃ c, (coarseL p next).1 = c := ⟨_, rfl⟩
  obtain ⟨k, hk⟩ : ∃ k, (coarseL p next).2 = k := ⟨_, rfl⟩
  have HC : Hid (coarseL p next = (c, k)) := by
    show _ = _
    rw [← hc, ← hk]
  have HV := hide (decide_eq_true hst)
  have HSt := hide hst
  obtain ⟨kq, hkq⟩ : ∃ kq, cnt p = kq := ⟨_, rfl⟩
  have HKq := hide hkq
  have hn31 : n ≤ 1024 := by omega
  have HRl : Hid ((refineL p next).length = n) := (refine_pt hp hno.1).len
  have HQl : Hid ((quotL p next).length = kq) := by show _ = _; rw [quot_length, hkq]
  clear hc hk hkq hp hno hst
  have HG := hide hg
  have HS := hide hs
  have HNl : Hid (next.length = n) := h2.len
  have Ip := hide h
  have Rn := hide h2
  have HK := hide (Keeps.refl Non w)
  clear h h2 hg hs
  go_enter Try.func24, Try.ntmps24
  have C1 := hide (clone_own a n cap p w Ip.out (by omega))
  go_wp2_with fail
  refine C1.out.mono ?_
  rintro e x1 ⟨_, rfl, ho, hk1⟩
  replace Ip := hide (Ip.out.non hk1)
  replace Rn := hide (Rn.out.non hk1)
  replace HK := hide (HK.out.then hk1)
  obtain ⟨a1, c1, rfl, hI⟩ := ints_of_owns ho (by omega)
  have Ia := hide hI
  clear hk1 C1 ho hI
  have C2 := hide (copied_l b n cap2 next x1 Rn.out (by omega) (fun i => by have := HS.out i; omega))
  go_wp2_with fail
  refine C2.out.mono ?_
  rintro e x2 ⟨_, rfl, a2, c2, rfl, hR, hk2⟩
  replace Ip := hide (Ip.out.non hk2)
  replace Rn := hide (Rn.out.non hk2)
  replace Ia := hide (Ia.out.non hk2)
  replace HK := hide (HK.out.then hk2)
  rw [HNl.out] at hR ⊢
  have Ra := hide hR
  clear hk2 C2 hR
  have C3 := hide (refine_c (cap := c1) (cap2 := c2) Ia.out Ra.out P1.out HNx.out hn31)
  go_wp2_with fail
  refine C3.out.mono ?_
  rintro e x3 ⟨g3, rfl, hI, hk3⟩
  replace Ip := hide (Ip.out.non hk3)
  replace Rn := hide (Rn.out.non hk3)
  replace Ia := hide (Ia.out.non hk3)
  replace Ra := hide (Ra.out.non hk3)
  have Ir := hide hI
  replace HK := hide (HK.out.then hk3)
  clear hk3 C3 hI
  have C4 := hide (stable_c (cap := c1) (cap2 := c2) Ia.out Ra.out P1.out HNx.out hn31 true HV.out)
  go_wp2_with fail
  refine C4.out.mono ?_
  rintro e x4 ⟨rfl, hk4⟩
  replace Ip := hide (Ip.out.non hk4)
  replace Rn := hide (Rn.out.non hk4)
  replace Ia := hide (Ia.out.non hk4)
  replace Ra := hide (Ra.out.non hk4)
  replace Ir := hide (Ir.out.non hk4)
  replace HK := hide (HK.out.then hk4)
  clear hk4 C4
  have C5 := hide (coarsest_c (cap := c1) (cap2 := c2) Ia.out Ra.out P1.out HNx.out hn31 c k HC.out)
  go_wp2_with fail
  refine C5.out.mono ?_
  rintro e x5 ⟨g4, e4, rfl, hI, hk5⟩
  replace Ip := hide (Ip.out.non hk5)
  replace Rn := hide (Rn.out.non hk5)
  replace Ia := hide (Ia.out.non hk5)
  replace Ra := hide (Ra.out.non hk5)
  replace Ir := hide (Ir.out.non hk5)
  have Ic := hide hI
  replace HK := hide (HK.out.then hk5)
  clear hk5 C5 hI
  have C6 := hide (quotient_c (cap := c1) (cap2 := c2) Ia.out Ra.out P1.out HNx.out hn31 HSt.out kq HKq.out)
  go_wp2_with fail
  refine C6.out.mono ?_
  rintro e x6 ⟨g5, rfl, hR, hk6⟩
  replace Ip := hide (Ip.out.non hk6)
  replace Rn := hide (Rn.out.non hk6)
  replace Ia := hide (Ia.out.non hk6)
  replace Ra := hide (Ra.out.non hk6)
  replace Ir := hide (Ir.out.non hk6)
  replace Ic := hide (Ic.out.non hk6)
  have Rq := hide hR
  replace HK := hide (HK.out.then hk6)
  clear hk6 C6 hR
  have C7 := hide (equal_c (cap := c1) (cap2 := cap) Ia.out Ip.out true (decide_eq_true rfl))
  go_wp2_with fail
  refine C7.out.mono ?_
  rintro e x7 ⟨rfl, hk7⟩
  replace Ip := hide (Ip.out.non hk7)
  replace Rn := hide (Rn.out.non hk7)
  replace Ia := hide (Ia.out.non hk7)
  replace Ra := hide (Ra.out.non hk7)
  replace Ir := hide (Ir.out.non hk7)
  replace Ic := hide (Ic.out.non hk7)
  replace Rq := hide (Rq.out.non hk7)
  replace HK := hide (HK.out.then hk7)
  clear hk7 C7
  have hL := lists_l a2 n c2 _ b n cap2 _ x7 Ra.out Rn.out
  rw [decide_eq_true rfl] at hL
  have HL := hide hL
  clear hL
  have C8 := hide (HL.out)
  go_wp2_with fail
  refine C8.out.mono ?_
  rintro e x8 ⟨rfl, hk8⟩
  replace Ip := hide (Ip.out.non hk8)
  replace Rn := hide (Rn.out.non hk8)
  replace Ia := hide (Ia.out.non hk8)
  replace Ra := hide (Ra.out.non hk8)
  replace Ir := hide (Ir.out.non hk8)
  replace Ic := hide (Ic.out.non hk8)
  replace Rq := hide (Rq.out.non hk8)
  replace HK := hide (HK.out.then hk8)
  clear hk8 C8
  clear HL
  have C9 := hide (rightR_l a n cap p true x8 Ip.out HR.out)
  go_wp2_with fail
  refine C9.out.mono ?_
  rintro e x9 ⟨rfl, hk9⟩
  replace Ip := hide (Ip.out.non hk9)
  replace Rn := hide (Rn.out.non hk9)
  replace Ia := hide (Ia.out.non hk9)
  replace Ra := hide (Ra.out.non hk9)
  replace Ir := hide (Ir.out.non hk9)
  replace Ic := hide (Ic.out.non hk9)
  replace Rq := hide (Rq.out.non hk9)
  replace HK := hide (HK.out.then hk9)
  clear hk9 C9
  have C10 := hide (nextR_c (n := n) (cap2 := cap2) true Rn.out (by omega) (fun i => by have := HS.out i; omega) HNb.out)
  go_wp2_with fail
  refine C10.out.mono ?_
  rintro e x10 ⟨rfl, hk10⟩
  replace Ip := hide (Ip.out.non hk10)
  replace Rn := hide (Rn.out.non hk10)
  replace Ia := hide (Ia.out.non hk10)
  replace Ra := hide (Ra.out.non hk10)
  replace Ir := hide (Ir.out.non hk10)
  replace Ic := hide (Ic.out.non hk10)
  replace Rq := hide (Rq.out.non hk10)
  replace HK := hide (HK.out.then hk10)
  clear hk10 C10
  have C11 := hide (coarsestR_c (cap := cap) (cap2 := cap2) Ip.out Rn.out P1.out HNx.out hn31 c k HC.out)
  go_wp2_with fail
  refine C11.out.mono ?_
  rintro e x11 ⟨g6, e6, rfl, hI, hk11⟩
  replace Ip := hide (Ip.out.non hk11)
  replace Rn := hide (Rn.out.non hk11)
  replace Ia := hide (Ia.out.non hk11)
  replace Ra := hide (Ra.out.non hk11)
  replace Ir := hide (Ir.out.non hk11)
  replace Ic := hide (Ic.out.non hk11)
  replace Rq := hide (Rq.out.non hk11)
  have Icr := hide hI
  replace HK := hide (HK.out.then hk11)
  clear hk11 C11 hI
  have C12 := hide (refineR_l a b n cap cap2 p next x11 Ip.out Rn.out P1.out HNx.out hn31)
  go_wp2_with fail
  refine C12.out.mono ?_
  rintro e x12 ⟨_, rfl, a7, c7, rfl, hI7, hk12⟩
  replace Ip := hide (Ip.out.non hk12)
  replace Rn := hide (Rn.out.non hk12)
  replace Ia := hide (Ia.out.non hk12)
  replace Ra := hide (Ra.out.non hk12)
  replace Ir := hide (Ir.out.non hk12)
  replace Ic := hide (Ic.out.non hk12)
  replace Rq := hide (Rq.out.non hk12)
  replace Icr := hide (Icr.out.non hk12)
  replace HK := hide (HK.out.then hk12)
  rw [HRl.out] at hI7 ⊢
  have Irr := hide hI7
  clear hk12 C12 hI7
  have C13 := hide (equal_c (cap := n) (cap2 := c7) Ir.out Irr.out true (decide_eq_true rfl))
  go_wp2_with fail
  refine C13.out.mono ?_
  rintro e x13 ⟨rfl, hk13⟩
  replace Ip := hide (Ip.out.non hk13)
  replace Rn := hide (Rn.out.non hk13)
  replace Ia := hide (Ia.out.non hk13)
  replace Ra := hide (Ra.out.non hk13)
  replace Ir := hide (Ir.out.non hk13)
  replace Ic := hide (Ic.out.non hk13)
  replace Rq := hide (Rq.out.non hk13)
  replace Icr := hide (Icr.out.non hk13)
  replace Irr := hide (Irr.out.non hk13)
  replace HK := hide (HK.out.then hk13)
  clear hk13 C13
  have C14 := hide (stableR_l a b n cap cap2 p next true x13 Ip.out Rn.out P1.out HNx.out hn31 HV.out)
  go_wp2_with fail
  refine C14.out.mono ?_
  rintro e x14 ⟨rfl, hk14⟩
  replace Ip := hide (Ip.out.non hk14)
  replace Rn := hide (Rn.out.non hk14)
  replace Ia := hide (Ia.out.non hk14)
  replace Ra := hide (Ra.out.non hk14)
  replace Ir := hide (Ir.out.non hk14)
  replace Ic := hide (Ic.out.non hk14)
  replace Rq := hide (Rq.out.non hk14)
  replace Icr := hide (Icr.out.non hk14)
  replace Irr := hide (Irr.out.non hk14)
  replace HK := hide (HK.out.then hk14)
  clear hk14 C14
  have C15 := hide (equal_c (cap := e4) (cap2 := e6) Ic.out Icr.out true (decide_eq_true rfl))
  go_wp2_with fail
  refine C15.out.mono ?_
  rintro e x15 ⟨rfl, hk15⟩
  replace Ip := hide (Ip.out.non hk15)
  replace Rn := hide (Rn.out.non hk15)
  replace Ia := hide (Ia.out.non hk15)
  replace Ra := hide (Ra.out.non hk15)
  replace Ir := hide (Ir.out.non hk15)
  replace Ic := hide (Ic.out.non hk15)
  replace Rq := hide (Rq.out.non hk15)
  replace Icr := hide (Icr.out.non hk15)
  replace Irr := hide (Irr.out.non hk15)
  replace HK := hide (HK.out.then hk15)
  clear hk15 C15
  have C16 := hide (quotientR_l a b n cap cap2 p next x15 Ip.out Rn.out P1.out HNx.out HSt.out hn31)
  go_wp2_with fail
  refine C16.out.mono ?_
  rintro e x16 ⟨_, rfl, a8, c8, rfl, hR8, hk16⟩
  replace Ip := hide (Ip.out.non hk16)
  replace Rn := hide (Rn.out.non hk16)
  replace Ia := hide (Ia.out.non hk16)
  replace Ra := hide (Ra.out.non hk16)
  replace Ir := hide (Ir.out.non hk16)
  replace Ic := hide (Ic.out.non hk16)
  replace Rq := hide (Rq.out.non hk16)
  replace Icr := hide (Icr.out.non hk16)
  replace Irr := hide (Irr.out.non hk16)
  replace HK := hide (HK.out.then hk16)
  rw [HQl.out] at hR8 ⊢
  have Rqr := hide hR8
  clear hk16 C16 hR8
  have hL := lists_l (some ⟨g5, 0, none⟩) kq kq _ a8 kq c8 _ x16 Rq.out Rqr.out
  rw [decide_eq_true rfl] at hL
  have HL := hide hL
  clear hL
  have C17 := hide (HL.out)
  go_wp2_with fail
  refine C17.out.mono ?_
  rintro e x17 ⟨rfl, hk17⟩
  replace Ip := hide (Ip.out.non hk17)
  replace Rn := hide (Rn.out.non hk17)
  replace Ia := hide (Ia.out.non hk17)
  replace Ra := hide (Ra.out.non hk17)
  replace Ir := hide (Ir.out.non hk17)
  replace Ic := hide (Ic.out.non hk17)
  replace Rq := hide (Rq.out.non hk17)
  replace Icr := hide (Icr.out.non hk17)
  replace Irr := hide (Irr.out.non hk17)
  replace Rqr := hide (Rqr.out.non hk17)
  replace HK := hide (HK.out.then hk17)
  clear hk17 C17
  go_wp2_with fail
  go_ret
  exact ⟨rfl, HK.out⟩
set_option maxRecDepth 100000 in
set_option maxHeartbeats 16000000 in
theorem steps_split (a b : Option Addr) (n cap cap2 : Nat) (p : List Int) (next : List (List Int)) (w : World) (h : Ints w a n p) (h2 : Rows w b n next) (hg : Good p) (hn : n ≤ 1000) (hm : n ≤ 1000) (hs : ∀ i, (next.getD i []).length ≤ 1000) (hp : Pt n p) (hno : NextOk n next) (hst : ¬ refineL p next = p) :
    Calls Try.prog 24 #[.slice a n cap, .slice b n cap2] w fun e w' => e = .returned (.bool true) ∧ Keeps Non w w' := by
  have P1 := hide hp
  have HNx := hide hno
  have HR := hide (pt_right hp (by omega))
  have HNb := hide (nextB_iff.2 hno)
  obtain ⟨c, hc⟩ : ∃ c, (coarseL p next).1 = c := ⟨_, rfl⟩
  obtain ⟨k, hk⟩ : ∃ k, (coarseL p next).2 = k := ⟨_, rfl⟩
  have HC : Hid (coarseL p next = (c, k)) := by
    show _ = _
    rw [← hc, ← hk]
  have HV := hide (decide_eq_false hst)
  have HSt := hide hst
  obtain ⟨kq, hkq⟩ : ∃ kq, cnt p = kq := ⟨_, rfl⟩
  have HKq := hide hkq
  have hn31 : n ≤ 1024 := by omega
  have HRl : Hid ((refineL p next).length = n) := (refine_pt hp hno.1).len
  have HQl : Hid ((quotL p next).length = kq) := by show _ = _; rw [quot_length, hkq]
  clear hc hk hkq hp hno hst
  have HG := hide hg
  have HS := hide hs
  have HNl : Hid (next.length = n) := h2.len
  have Ip := hide h
  have Rn := hide h2
  have HK := hide (Keeps.refl Non w)
  clear h h2 hg hs
  go_enter Try.func24, Try.ntmps24
  have C1 := hide (clone_own a n cap p w Ip.out (by omega))
  go_wp2_with fail
  refine C1.out.mono ?_
  rintro e x1 ⟨_, rfl, ho, hk1⟩
  replace Ip := hide (Ip.out.non hk1)
  replace Rn := hide (Rn.out.non hk1)
  replace HK := hide (HK.out.then hk1)
  obtain ⟨a1, c1, rfl, hI⟩ := ints_of_owns ho (by omega)
  have Ia := hide hI
  clear hk1 C1 ho hI
  have C2 := hide (copied_l b n cap2 next x1 Rn.out (by omega) (fun i => by have := HS.out i; omega))
  go_wp2_with fail
  refine C2.out.mono ?_
  rintro e x2 ⟨_, rfl, a2, c2, rfl, hR, hk2⟩
  replace Ip := hide (Ip.out.non hk2)
  replace Rn := hide (Rn.out.non hk2)
  replace Ia := hide (Ia.out.non hk2)
  replace HK := hide (HK.out.then hk2)
  rw [HNl.out] at hR ⊢
  have Ra := hide hR
  clear hk2 C2 hR
  have C3 := hide (refine_c (cap := c1) (cap2 := c2) Ia.out Ra.out P1.out HNx.out hn31)
  go_wp2_with fail
  refine C3.out.mono ?_
  rintro e x3 ⟨g3, rfl, hI, hk3⟩
  replace Ip := hide (Ip.out.non hk3)
  replace Rn := hide (Rn.out.non hk3)
  replace Ia := hide (Ia.out.non hk3)
  replace Ra := hide (Ra.out.non hk3)
  have Ir := hide hI
  replace HK := hide (HK.out.then hk3)
  clear hk3 C3 hI
  have C4 := hide (stable_c (cap := c1) (cap2 := c2) Ia.out Ra.out P1.out HNx.out hn31 false HV.out)
  go_wp2_with fail
  refine C4.out.mono ?_
  rintro e x4 ⟨rfl, hk4⟩
  replace Ip := hide (Ip.out.non hk4)
  replace Rn := hide (Rn.out.non hk4)
  replace Ia := hide (Ia.out.non hk4)
  replace Ra := hide (Ra.out.non hk4)
  replace Ir := hide (Ir.out.non hk4)
  replace HK := hide (HK.out.then hk4)
  clear hk4 C4
  have C5 := hide (coarsest_c (cap := c1) (cap2 := c2) Ia.out Ra.out P1.out HNx.out hn31 c k HC.out)
  go_wp2_with fail
  refine C5.out.mono ?_
  rintro e x5 ⟨g4, e4, rfl, hI, hk5⟩
  replace Ip := hide (Ip.out.non hk5)
  replace Rn := hide (Rn.out.non hk5)
  replace Ia := hide (Ia.out.non hk5)
  replace Ra := hide (Ra.out.non hk5)
  replace Ir := hide (Ir.out.non hk5)
  have Ic := hide hI
  replace HK := hide (HK.out.then hk5)
  clear hk5 C5 hI
  have C6 := hide (quotient_split a1 a2 n c1 n c2 p next x5 Ia.out Ra.out HG.out (pt_wrongE P1.out HNx.out hn31) HSt.out)
  go_wp2_with fail
  refine C6.out.mono ?_
  rintro e x6 ⟨rfl, hk6⟩
  replace Ip := hide (Ip.out.non hk6)
  replace Rn := hide (Rn.out.non hk6)
  replace Ia := hide (Ia.out.non hk6)
  replace Ra := hide (Ra.out.non hk6)
  replace Ir := hide (Ir.out.non hk6)
  replace Ic := hide (Ic.out.non hk6)
  replace HK := hide (HK.out.then hk6)
  clear hk6 C6
  have C7 := hide (equal_c (cap := c1) (cap2 := cap) Ia.out Ip.out true (decide_eq_true rfl))
  go_wp2_with fail
  refine C7.out.mono ?_
  rintro e x7 ⟨rfl, hk7⟩
  replace Ip := hide (Ip.out.non hk7)
  replace Rn := hide (Rn.out.non hk7)
  replace Ia := hide (Ia.out.non hk7)
  replace Ra := hide (Ra.out.non hk7)
  replace Ir := hide (Ir.out.non hk7)
  replace Ic := hide (Ic.out.non hk7)
  replace HK := hide (HK.out.then hk7)
  clear hk7 C7
  have hL := lists_l a2 n c2 _ b n cap2 _ x7 Ra.out Rn.out
  rw [decide_eq_true rfl] at hL
  have HL := hide hL
  clear hL
  have C8 := hide (HL.out)
  go_wp2_with fail
  refine C8.out.mono ?_
  rintro e x8 ⟨rfl, hk8⟩
  replace Ip := hide (Ip.out.non hk8)
  replace Rn := hide (Rn.out.non hk8)
  replace Ia := hide (Ia.out.non hk8)
  replace Ra := hide (Ra.out.non hk8)
  replace Ir := hide (Ir.out.non hk8)
  replace Ic := hide (Ic.out.non hk8)
  replace HK := hide (HK.out.then hk8)
  clear hk8 C8
  clear HL
  have C9 := hide (rightR_l a n cap p true x8 Ip.out HR.out)
  go_wp2_with fail
  refine C9.out.mono ?_
  rintro e x9 ⟨rfl, hk9⟩
  replace Ip := hide (Ip.out.non hk9)
  replace Rn := hide (Rn.out.non hk9)
  replace Ia := hide (Ia.out.non hk9)
  replace Ra := hide (Ra.out.non hk9)
  replace Ir := hide (Ir.out.non hk9)
  replace Ic := hide (Ic.out.non hk9)
  replace HK := hide (HK.out.then hk9)
  clear hk9 C9
  have C10 := hide (nextR_c (n := n) (cap2 := cap2) true Rn.out (by omega) (fun i => by have := HS.out i; omega) HNb.out)
  go_wp2_with fail
  refine C10.out.mono ?_
  rintro e x10 ⟨rfl, hk10⟩
  replace Ip := hide (Ip.out.non hk10)
  replace Rn := hide (Rn.out.non hk10)
  replace Ia := hide (Ia.out.non hk10)
  replace Ra := hide (Ra.out.non hk10)
  replace Ir := hide (Ir.out.non hk10)
  replace Ic := hide (Ic.out.non hk10)
  replace HK := hide (HK.out.then hk10)
  clear hk10 C10
  have C11 := hide (coarsestR_c (cap := cap) (cap2 := cap2) Ip.out Rn.out P1.out HNx.out hn31 c k HC.out)
  go_wp2_with fail
  refine C11.out.mono ?_
  rintro e x11 ⟨g6, e6, rfl, hI, hk11⟩
  replace Ip := hide (Ip.out.non hk11)
  replace Rn := hide (Rn.out.non hk11)
  replace Ia := hide (Ia.out.non hk11)
  replace Ra := hide (Ra.out.non hk11)
  replace Ir := hide (Ir.out.non hk11)
  replace Ic := hide (Ic.out.non hk11)
  have Icr := hide hI
  replace HK := hide (HK.out.then hk11)
  clear hk11 C11 hI
  have C12 := hide (refineR_l a b n cap cap2 p next x11 Ip.out Rn.out P1.out HNx.out hn31)
  go_wp2_with fail
  refine C12.out.mono ?_
  rintro e x12 ⟨_, rfl, a7, c7, rfl, hI7, hk12⟩
  replace Ip := hide (Ip.out.non hk12)
  replace Rn := hide (Rn.out.non hk12)
  replace Ia := hide (Ia.out.non hk12)
  replace Ra := hide (Ra.out.non hk12)
  replace Ir := hide (Ir.out.non hk12)
  replace Ic := hide (Ic.out.non hk12)
  replace Icr := hide (Icr.out.non hk12)
  replace HK := hide (HK.out.then hk12)
  rw [HRl.out] at hI7 ⊢
  have Irr := hide hI7
  clear hk12 C12 hI7
  have C13 := hide (equal_c (cap := n) (cap2 := c7) Ir.out Irr.out true (decide_eq_true rfl))
  go_wp2_with fail
  refine C13.out.mono ?_
  rintro e x13 ⟨rfl, hk13⟩
  replace Ip := hide (Ip.out.non hk13)
  replace Rn := hide (Rn.out.non hk13)
  replace Ia := hide (Ia.out.non hk13)
  replace Ra := hide (Ra.out.non hk13)
  replace Ir := hide (Ir.out.non hk13)
  replace Ic := hide (Ic.out.non hk13)
  replace Icr := hide (Icr.out.non hk13)
  replace Irr := hide (Irr.out.non hk13)
  replace HK := hide (HK.out.then hk13)
  clear hk13 C13
  have C14 := hide (stableR_l a b n cap cap2 p next false x13 Ip.out Rn.out P1.out HNx.out hn31 HV.out)
  go_wp2_with fail
  refine C14.out.mono ?_
  rintro e x14 ⟨rfl, hk14⟩
  replace Ip := hide (Ip.out.non hk14)
  replace Rn := hide (Rn.out.non hk14)
  replace Ia := hide (Ia.out.non hk14)
  replace Ra := hide (Ra.out.non hk14)
  replace Ir := hide (Ir.out.non hk14)
  replace Ic := hide (Ic.out.non hk14)
  replace Icr := hide (Icr.out.non hk14)
  replace Irr := hide (Irr.out.non hk14)
  replace HK := hide (HK.out.then hk14)
  clear hk14 C14
  have C15 := hide (equal_c (cap := e4) (cap2 := e6) Ic.out Icr.out true (decide_eq_true rfl))
  go_wp2_with fail
  refine C15.out.mono ?_
  rintro e x15 ⟨rfl, hk15⟩
  replace Ip := hide (Ip.out.non hk15)
  replace Rn := hide (Rn.out.non hk15)
  replace Ia := hide (Ia.out.non hk15)
  replace Ra := hide (Ra.out.non hk15)
  replace Ir := hide (Ir.out.non hk15)
  replace Ic := hide (Ic.out.non hk15)
  replace Icr := hide (Icr.out.non hk15)
  replace Irr := hide (Irr.out.non hk15)
  replace HK := hide (HK.out.then hk15)
  clear hk15 C15
  go_wp2_with fail
  go_ret
  exact ⟨rfl, HK.out⟩
theorem steps_any (a b : Option Addr) (n m cap cap2 : Nat) (p : List Int) (next : List (List Int)) (w : World) (h : Ints w a n p) (h2 : Rows w b m next) (hg : Good p) (hn : n ≤ 1000) (hm : m ≤ 1000) (hs : ∀ i, (next.getD i []).length ≤ 1000) :
    Calls Try.prog 24 #[.slice a n cap, .slice b m cap2] w fun e w' => e = .returned (.bool true) ∧ Keeps Non w w' := by
  cases hr : rightB p with
  | false => exact steps_no1 a b n m cap cap2 p next w h h2 hg hn hm hs hr
  | true =>
    by_cases hno : NextOk n next
    · have hp : Pt n p := ⟨h.len, (rightB_iff.1 hr).2⟩
      obtain rfl : n = m := by rw [← h2.len]; exact hno.1.symm
      by_cases hst : refineL p next = p
      · exact steps_yes a b n cap cap2 p next w h h2 hg hn hm hs hp hno hst
      · exact steps_split a b n cap cap2 p next w h h2 hg hn hm hs hp hno hst
    · exact steps_no2 a b n m cap cap2 p next w h h2 hg hn hm hs hr hno
theorem law_steps (a b : Option Addr) (n cap m cap2 : Nat) (xs : List Int) (xss : List (List Int)) (w : World) (h : RawI w a n xs) (h2 : RowsU w b m xss) :
    Calls Try.prog 4 #[.slice a n cap, .slice b m cap2] w fun e w' => e = .returned (.bool true) ∧ Keeps Non w w' := by
  have hn := h.lim
  have hm := h2.lim
  have HA := hide awake_l
  by_cases q1 : 40 < n
  · have i1 : (40 : Int) < (n : Int) := by omega
    clear h h2
    go_enter Try.func4, Try.ntmps4
    go_wp2_with fail
    refine (HA.out w).mono ?_
    rintro e w2 ⟨rfl, hk⟩
    go_wp2_with fail
    go_ret
    exact ⟨rfl, hk⟩
  · have i1 : decide ((40 : Int) < (n : Int)) = false := by simp; omega
    cases hf : fewB xss with
    | false =>
      have HF := hide (few_l b m cap2 xss false w h2 hf)
      clear h h2 hf q1
      go_enter Try.func4, Try.ntmps4
      go_wp2_with fail
      refine HF.out.mono ?_
      rintro e w1 ⟨rfl, hk1⟩
      have HK1 := hide hk1
      clear hk1
      go_wp2_with fail
      refine (HA.out w1).mono ?_
      rintro e w2 ⟨rfl, hk⟩
      go_wp2_with fail
      go_ret
      exact ⟨rfl, HK1.out.then hk⟩
    | true =>
      have HF := hide (few_l b m cap2 xss true w h2 hf)
      obtain ⟨f1, f2⟩ := fewB_iff hf
      have hml := h2.len
      have HP : Hid (∀ w', Keeps Non w w' → Calls Try.prog 24 #[.slice a n cap, .slice b m cap2] w' fun e w2 => e = .returned (.bool true) ∧ Keeps Non w' w2) := fun w' hk => steps_any a b n m cap cap2 xs xss w' ((h.ints (by omega)).non hk) ((h2.rows (by omega) (fun i => by have := f2 i; omega)).non hk) h.good (by omega) (by omega) (fun i => by have := f2 i; omega)
      clear h h2 hf q1 f1 f2 hml
      go_enter Try.func4, Try.ntmps4
      go_wp2_with fail
      refine HF.out.mono ?_
      rintro e w1 ⟨rfl, hk1⟩
      have HK1 := hide hk1
      have HP1 := hide (HP.out w1 hk1)
      clear hk1
      go_wp2_with fail
      refine HP1.out.mono ?_
      rintro e w2 ⟨rfl, hk⟩
      have HK := hide (HK1.out.then hk)
      clear hk
      go_wp2_with fail
      refine (HA.out w2).mono ?_
      rintro e w3 ⟨rfl, hk3⟩
      go_wp2_with fail
      go_ret
      exact ⟨rfl, HK.out.then hk3⟩
end Go.Proofs.Ytkcbahfmdokalaa
