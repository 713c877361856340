/-
  The walk over BlocksCoarsest. No condition beyond the row's own.
-/
import Derived.Test.YtkcbahfmdokalaaLr
import Derived.Test.YtkcbahfmdokalaaPb
namespace Go.Proofs.Ytkcbahfmdokalaa
open Go.RowKit
attribute [local go_sem] onto_cell onto_frozen
set_option linter.unusedVariables false
theorem firstAt_good {n : Nat} {p c : List Int} (hp : Good p) : ∀ (m k : Nat), k + m = c.length → p.length = c.length → Good (firstAt p c k)
  | 0, k, hk, hl => by
    rw [firstAt_end (by omega)]
    intro x hx
    rw [(List.mem_replicate.1 hx).2]
    decide
  | m + 1, k, hk, hl => by
    rw [firstAt_step (by omega) (by omega)]
    intro x hx
    rcases List.mem_or_eq_of_mem_set hx with h | h
    · exact firstAt_good (n := n) hp m (k + 1) (by omega) hl x h
    · rw [h]
      exact good_at hp k
theorem ofInt_c {n : Nat} {a : Option Addr} {cap : Nat} {xs : List Int} {w : World} (h : Ints w a n xs) (hn : n ≤ 1024) (hg : Good xs) :
    Calls Try.prog 17 #[.slice a n cap] w fun e w' => ∃ g, e = .returned (.tuple #[.slice (some ⟨g, 0, none⟩) n n, .int .i64 0]) ∧ Ints w' (some ⟨g, 0, none⟩) n (numb [] xs) ∧ Keeps Non w w' :=
  (ofInt_l a n cap xs w h hn hg).mono fun e w' ⟨v, h1, h2⟩ => by
    obtain ⟨g, rfl, h3, h4⟩ := new_pt h2 (by rw [numb_length, h.len]) hn
    exact ⟨g, h1, h3, h4⟩
set_option maxRecDepth 100000 in
set_option maxHeartbeats 16000000 in
theorem law_coarsest (a b c0 : Option Addr) (n1 d1 n2 d2 n3 d3 : Nat) (xs ys zs : List Int) (w : World) (h1 : BySl w a n1 d1 xs) (h2 : BySl w b n2 d2 ys) (h3 : BySl w c0 n3 d3 zs) :
    Calls Try.prog 7 #[.slice a n1 d1, .slice b n2 d2, .slice c0 n3 d3] w fun e w' => e = .returned (.bool true) ∧ Keeps Non w w' := by
  obtain ⟨m, hm⟩ : ∃ m, min (min n1 n2) 30 = m := ⟨_, rfl⟩
  have hT := two_l a b n1 d1 n2 d2 xs ys w h1 h2
  rw [hm] at hT
  have P1 : Hid (Pt m (madeL (xs.take m))) := pt_made (by rw [h1.by'.len]; omega) (by omega)
  have P2 : Hid (Pt m (madeL (ys.take m))) := pt_made (by rw [h2.by'.len]; omega) (by omega)
  have HB := hide h3.by'
  have HNx := hide (followsL_ok m zs (by omega) (fun i => (h3.by'.bd i).1))
  have hm30 : m ≤ 1000 := by omega
  have hm31 : m ≤ 1024 := by omega
  have hbig := h3.by'.big
  have HT := hide hT
  clear h1 h2 h3 hm hT
  go_enter Try.func7, Try.ntmps7
  go_wp2_with fail
  refine HT.out.mono ?_
  rintro e x0 ⟨a1, c1, a2, c2, rfl, i1, i2, k0⟩
  obtain ⟨p, hp⟩ : ∃ p, madeL (xs.take m) = p := ⟨_, rfl⟩
  obtain ⟨q, hq⟩ : ∃ p, madeL (ys.take m) = p := ⟨_, rfl⟩
  obtain ⟨nx, hnx⟩ : ∃ p, followsL m zs = p := ⟨_, rfl⟩
  have HX := hide hnx
  rw [hp] at i1 P1
  rw [hq] at i2 P2
  rw [hnx] at HNx
  replace HB := hide (HB.out.non k0)
  have Ip := hide i1
  have Iq := hide i2
  have HK := hide k0
  clear HT hp hq i1 i2 k0 hnx
  obtain ⟨c, hc⟩ : ∃ c, (coarseL p nx).1 = c := ⟨_, rfl⟩
  obtain ⟨k, hk⟩ : ∃ k, (coarseL p nx).2 = k := ⟨_, rfl⟩
  have HC : Hid (coarseL p nx = (c, k)) := by
    show _ = _
    rw [← hc, ← hk]
  have HO := hide (coarseL_ok P1.out HNx.out)
  rw [hc, hk] at HO
  have PC : Hid (Pt m c) := HO.out.pt
  have HC0 : Hid (coarseL c nx = (c, 0)) := coarse_stable HNx.out.1 PC.out HO.out.stable
  have PM : Hid (Pt m (meetL p q)) := meet_pt P1.out P2.out
  obtain ⟨s, hs⟩ : ∃ t, (coarseL (meetL p q) nx).1 = t := ⟨_, rfl⟩
  obtain ⟨k2, hk2⟩ : ∃ k, (coarseL (meetL p q) nx).2 = k := ⟨_, rfl⟩
  have HC2 : Hid (coarseL (meetL p q) nx = (s, k2)) := by
    show _ = _
    rw [← hs, ← hk2]
  have HO2 := hide (coarseL_ok PM.out HNx.out)
  rw [hs, hk2] at HO2
  have PS : Hid (Pt m s) := HO2.out.pt
  have HBe : Hid (Fin m s c) := HO.out.best s PS.out HO2.out.stable (fun i j hi hj h => ((meet_ker P1.out P2.out hi hj).1 (HO2.out.fin i j hi hj h)).1)
  obtain ⟨kq, hkq⟩ : ∃ kq, cnt c = kq := ⟨_, rfl⟩
  have HKq := hide hkq
  have hkk : k ≤ m := by
    have h1 := HO.out.count
    have h2 := cnt_le_length c
    rw [PC.out.len] at h2
    omega
  have hkqm : kq ≤ 1024 := by
    have h2 := cnt_le_length c
    rw [PC.out.len] at h2
    omega
  have HQ : Hid (NextOk kq (quotL c nx)) := by
    have := quot_ok PC.out HNx.out HO.out.stable
    rw [hkq] at this
    exact this
  have PF : Hid (Pt kq (numb [] (firstOf p c))) := ⟨by rw [numb_length, firstOf, firstAt_length, hkq], isP_numb _⟩
  obtain ⟨en, hen⟩ : ∃ t, (coarseL (numb [] (firstOf p c)) (quotL c nx)).1 = t := ⟨_, rfl⟩
  obtain ⟨k3, hk3⟩ : ∃ t, (coarseL (numb [] (firstOf p c)) (quotL c nx)).2 = t := ⟨_, rfl⟩
  have HC3 : Hid (coarseL (numb [] (firstOf p c)) (quotL c nx) = (en, k3)) := by
    show _ = _
    rw [← hen, ← hk3]
  have hO3 := coarseL_ok PF.out HQ.out
  rw [hen, hk3] at hO3
  have PE : Hid (Pt kq en) := hO3.pt
  have HEn : Hid (cnt en = kq) := by
    have := quot_end P1.out HNx.out HO.out (k := k3) (e := en) (by rw [hkq]; exact hO3)
    rw [hkq] at this
    exact this
  have kk0 : (0 : Int) ≤ (k : Int) := by omega
  have kk1 : (k : Int) ≤ (m : Int) := by omega
  clear hc hk hs hk2 hkq hen hk3 hO3 hkk
  have C1 := hide (follows_c m c0 n3 d3 zs x0 HB.out hm30)
  go_wp2_with fail
  refine C1.out.mono ?_
  rintro e x1 ⟨g1, rfl, hI, hk1⟩
  replace Ip := hide (Ip.out.non hk1)
  replace Iq := hide (Iq.out.non hk1)
  replace HB := hide (HB.out.non hk1)
  replace HK := hide (HK.out.then hk1)
  rw [HX.out] at hI
  have Rn := hide hI
  clear hk1 C1 hI
  clear HB
  have C2 := hide (coarsest_c (cap := c1) (cap2 := m) Ip.out Rn.out P1.out HNx.out hm31 c k HC.out)
  go_wp2_with fail
  refine C2.out.mono ?_
  rintro e x2 ⟨g2, e2, rfl, hI, hk2⟩
  replace Ip := hide (Ip.out.non hk2)
  replace Iq := hide (Iq.out.non hk2)
  replace Rn := hide (Rn.out.non hk2)
  have Ic := hide hI
  replace HK := hide (HK.out.then hk2)
  clear hk2 C2 hI
  have C3 := hide (stable_c (cap := e2) (cap2 := m) Ic.out Rn.out PC.out HNx.out hm31 true (decide_eq_true HO.out.stable))
  go_wp2_with fail
  refine C3.out.mono ?_
  rintro e x3 ⟨rfl, hk3⟩
  replace Ip := hide (Ip.out.non hk3)
  replace Iq := hide (Iq.out.non hk3)
  replace Rn := hide (Rn.out.non hk3)
  replace Ic := hide (Ic.out.non hk3)
  replace HK := hide (HK.out.then hk3)
  clear hk3 C3
  have C4 := hide (finer_c (cap := e2) (cap2 := c1) Ic.out Ip.out PC.out P1.out hm31 true (decide_eq_true ((finer_iff PC.out P1.out).2 HO.out.fin)))
  go_wp2_with fail
  refine C4.out.mono ?_
  rintro e x4 ⟨rfl, hk4⟩
  replace Ip := hide (Ip.out.non hk4)
  replace Iq := hide (Iq.out.non hk4)
  replace Rn := hide (Rn.out.non hk4)
  replace Ic := hide (Ic.out.non hk4)
  replace HK := hide (HK.out.then hk4)
  clear hk4 C4
  have C5 := hide (coarsest_c (cap := e2) (cap2 := m) Ic.out Rn.out PC.out HNx.out hm31 c 0 HC0.out)
  go_wp2_with fail
  refine C5.out.mono ?_
  rintro e x5 ⟨g3, e3, rfl, hI, hk5⟩
  replace Ip := hide (Ip.out.non hk5)
  replace Iq := hide (Iq.out.non hk5)
  replace Rn := hide (Rn.out.non hk5)
  replace Ic := hide (Ic.out.non hk5)
  have Iag := hide hI
  replace HK := hide (HK.out.then hk5)
  clear hk5 C5 hI
  have C6 := hide (equal_c (cap := e3) (cap2 := e2) Iag.out Ic.out true (decide_eq_true rfl))
  go_wp2_with fail
  refine C6.out.mono ?_
  rintro e x6 ⟨rfl, hk6⟩
  replace Ip := hide (Ip.out.non hk6)
  replace Iq := hide (Iq.out.non hk6)
  replace Rn := hide (Rn.out.non hk6)
  replace Ic := hide (Ic.out.non hk6)
  replace Iag := hide (Iag.out.non hk6)
  replace HK := hide (HK.out.then hk6)
  clear hk6 C6
  clear Iag
  have C7 := hide (meet_c (cap := c1) (cap2 := c2) Ip.out Iq.out P1.out P2.out hm31)
  go_wp2_with fail
  refine C7.out.mono ?_
  rintro e x7 ⟨g4, rfl, hI, hk7⟩
  replace Ip := hide (Ip.out.non hk7)
  replace Iq := hide (Iq.out.non hk7)
  replace Rn := hide (Rn.out.non hk7)
  replace Ic := hide (Ic.out.non hk7)
  have Im := hide hI
  replace HK := hide (HK.out.then hk7)
  clear hk7 C7 hI
  have C8 := hide (coarsest_c (cap := m) (cap2 := m) Im.out Rn.out PM.out HNx.out hm31 s k2 HC2.out)
  go_wp2_with fail
  refine C8.out.mono ?_
  rintro e x8 ⟨g5, e5, rfl, hI, hk8⟩
  replace Ip := hide (Ip.out.non hk8)
  replace Iq := hide (Iq.out.non hk8)
  replace Rn := hide (Rn.out.non hk8)
  replace Ic := hide (Ic.out.non hk8)
  replace Im := hide (Im.out.non hk8)
  have Is := hide hI
  replace HK := hide (HK.out.then hk8)
  clear hk8 C8 hI
  have C9 := hide (finer_c (cap := e5) (cap2 := e2) Is.out Ic.out PS.out PC.out hm31 true (decide_eq_true ((finer_iff PS.out PC.out).2 HBe.out)))
  go_wp2_with fail
  refine C9.out.mono ?_
  rintro e x9 ⟨rfl, hk9⟩
  replace Ip := hide (Ip.out.non hk9)
  replace Iq := hide (Iq.out.non hk9)
  replace Rn := hide (Rn.out.non hk9)
  replace Ic := hide (Ic.out.non hk9)
  replace Im := hide (Im.out.non hk9)
  replace Is := hide (Is.out.non hk9)
  replace HK := hide (HK.out.then hk9)
  clear hk9 C9
  have C10 := hide (quotient_c (cap := e2) (cap2 := m) Ic.out Rn.out PC.out HNx.out hm31 HO.out.stable kq HKq.out)
  go_wp2_with fail
  refine C10.out.mono ?_
  rintro e x10 ⟨g6, rfl, hR, hk10⟩
  replace Ip := hide (Ip.out.non hk10)
  replace Iq := hide (Iq.out.non hk10)
  replace Rn := hide (Rn.out.non hk10)
  replace Ic := hide (Ic.out.non hk10)
  replace Im := hide (Im.out.non hk10)
  replace Is := hide (Is.out.non hk10)
  have Rq := hide hR
  replace HK := hide (HK.out.then hk10)
  clear hk10 C10 hR
  clear Iq Im Is
  have hms := make22 x10 kq (by omega)
  obtain ⟨B, hB⟩ : ∃ B, x10.heap.size = B := ⟨_, rfl⟩
  have HBs := hide hB
  have HF0 : Hid (Blk (x10.alloc (.cells (Array.replicate kq (.int .i64 0)) 3)) B ((firstAt p c m).map (Value.int .i64)) 3) := by
    have e : (firstAt p c m).map (Value.int .i64) = List.replicate kq (.int .i64 0) := by
      rw [firstAt_end (by rw [PC.out.len]; exact Nat.le_refl _), HKq.out, List.map_replicate]
    rw [e, ← List.toArray_replicate]
    exact Blk.newAt x10 (List.replicate kq (.int .i64 0)) 3 hB.symm
  have HK0 := hide ((Keeps.refl Non x10).alloc (.cells (Array.replicate kq (.int .i64 0)) 3))
  have m1 : IntKind.i64.wrap ((m : Int) - 1) = (m : Int) - 1 := IntWalk.i64_in _ (by omega)
  clear hB
  go_wp2_with fail
  rw [HBs.out]
  obtain ⟨W, hW⟩ : ∃ W, x10.alloc (.cells (Array.replicate kq (.int .i64 0)) 3) = W := ⟨_, rfl⟩
  rw [hW] at HF0 HK0 hms
  try rw [hW]
  clear hW hms m1
  go_loopw [26] (fun t wr => ∃ (i : Nat), i ≤ m ∧ t = .int .i64 ((i : Int) - 1) ∧ Hid (Blk wr B ((firstAt p c i).map (Value.int .i64)) 3) ∧ Hid (Keeps Non x10 wr)) (fun t _ => (intOf t + 1).toNat)
  case atStart => exact ⟨m, by omega, rfl, HF0.out, HK0.out⟩
  case round =>
    clear HF0 HK0
    obtain ⟨i, hi, rfl, HF, HKr⟩ := hrel
    cases i with
    | succ j =>
      have ej : (((j + 1 : Nat) : Int) - 1) = (j : Int) := by omega
      rw [ej]
      have hjm : j < m := by omega
      obtain ⟨b3, o3, rfl, hb3, hc3⟩ := (Ic.out.non HKr.out).at (by omega)
      obtain ⟨b4, o4, rfl, hb4, hc4⟩ := (Ip.out.non HKr.out).at (by omega)
      have l3 := hc3 j hjm
      have l4 := hc4 j hjm
      have bz := pt_bound PC.out hjm
      have hst := firstAt_step (p := p) (c := c) (k := j) (by rw [P1.out.len]; exact hjm) (by rw [PC.out.len]; exact hjm)
      obtain ⟨x, hx⟩ : ∃ x, c.getD j 0 = x := ⟨_, rfl⟩
      obtain ⟨y, hy⟩ : ∃ x, p.getD j 0 = x := ⟨_, rfl⟩
      rw [hx] at l3 bz hst
      rw [hy] at l4 hst
      obtain ⟨z, rfl⟩ : ∃ z : Nat, x = z := ⟨x.toNat, by omega⟩
      rw [Int.toNat_natCast] at hst
      have hzk : z < kq := by rw [← HKq.out]; omega
      have HSt := hide hst
      have hfl : (firstAt p c (j + 1)).length = kq := by rw [firstAt_length, HKq.out]
      have lF : wr.cell? ⟨B, z, none⟩ = some (.int .i64 ((firstAt p c (j + 1)).getD z 0)) := by rw [HF.out.cell]; exact int_row (by rw [hfl]; exact hzk)
      have fF := HF.out.free z none
      have bF := HF.out.lt
      have z0 : (0 : Int) ≤ (z : Int) := by omega
      have z1 : (z : Int) < (kq : Int) := by omega
      have z2 : ¬ (kq : Int) ≤ (z : Int) := by omega
      have j0 : (0 : Int) ≤ (j : Int) := by omega
      have j1 : (j : Int) < (m : Int) := by omega
      have j2 : IntKind.i64.wrap ((j : Int) - 1) = (j : Int) - 1 := IntWalk.i64_in _ (by omega)
      clear hc3 hc4 bz hst hx hy hfl
      go_wp2_with fail
      go_region
      all_goals
        go_wp2_with fail
        go_roundw
        case rel => exact ⟨j, by omega, rfl, by
          have h1 := HF.out.drew.store z (.int .i64 y)
          rw [← List.map_set, ← HSt.out] at h1
          exact h1, HKr.out.drew.set (b := B) (.inr (by have := HBs.out; omega)) _⟩
        case measure => simp [intOf]
    | zero =>
      have ej : (((0 : Nat) : Int) - 1) = -1 := by omega
      rw [ej]
      have hfl : (firstOf p c).length = kq := by rw [firstOf, firstAt_length, HKq.out]
      have hIf := ints_of_blk (xs := firstOf p c) HF.out (by rw [hfl]; omega)
      rw [hfl] at hIf
      have If := hide hIf
      have HG : Hid (Good (firstOf p c)) := firstAt_good (n := m) (pt_good P1.out hm31) m 0 (by rw [PC.out.len]; omega) (by rw [P1.out.len, PC.out.len])
      replace HK := hide (HK.out.then HKr.out)
      replace Rq := hide (Rq.out.non HKr.out)
      clear hIf hfl HF HKr Ic Ip Rn
      have C11 := hide (ofInt_c (cap := kq) If.out hkqm HG.out)
      go_wp2_with fail
      refine C11.out.mono ?_
      rintro e x11 ⟨g7, rfl, hI, hk11⟩
      replace If := hide (If.out.non hk11)
      replace Rq := hide (Rq.out.non hk11)
      have Ist := hide hI
      replace HK := hide (HK.out.then hk11)
      clear hk11 C11 hI
      have C12 := hide (coarsest_c (cap := kq) (cap2 := kq) Ist.out Rq.out PF.out HQ.out hkqm en k3 HC3.out)
      go_wp2_with fail
      refine C12.out.mono ?_
      rintro e x12 ⟨g8, e8, rfl, hI, hk12⟩
      replace If := hide (If.out.non hk12)
      replace Rq := hide (Rq.out.non hk12)
      replace Ist := hide (Ist.out.non hk12)
      have Ie := hide hI
      replace HK := hide (HK.out.then hk12)
      clear hk12 C12 hI
      have C13 := hide (count_c (cap := e8) Ie.out PE.out hkqm kq HEn.out)
      go_wp2_with fail
      refine C13.out.mono ?_
      rintro e x13 ⟨rfl, hk13⟩
      replace If := hide (If.out.non hk13)
      replace Rq := hide (Rq.out.non hk13)
      replace Ist := hide (Ist.out.non hk13)
      replace Ie := hide (Ie.out.non hk13)
      replace HK := hide (HK.out.then hk13)
      clear hk13 C13
      have C14 := hide (awake_l x13)
      go_wp2_with fail
      refine C14.out.mono ?_
      rintro e x14 ⟨rfl, hk14⟩
      replace If := hide (If.out.non hk14)
      replace Rq := hide (Rq.out.non hk14)
      replace Ist := hide (Ist.out.non hk14)
      replace Ie := hide (Ie.out.non hk14)
      replace HK := hide (HK.out.then hk14)
      clear hk14 C14
      go_wp2_with fail
      go_ret
      exact ⟨rfl, HK.out⟩
end Go.Proofs.Ytkcbahfmdokalaa
