/-
  ReachBack: the walk. No condition.
-/
import Derived.Test.YthpdflpkkiabhaaPb
import Derived.Test.YthpdflpkkiabhaaVs
import Derived.Test.YthpdflpkkiabhaaMu
import Derived.Test.YthpdflpkkiabhaaLf
namespace Go.Proofs.Ythpdflpkkiabhaa
open Go.RowKit
attribute [local go_sem] onto_cell onto_frozen
set_option linter.unusedVariables false
theorem backL_short {next : List (List Int)} (hc : checkB next = true) (i : Nat) : ((backL next next.length).getD i []).length ≤ 16384 := by
  have h1 := backTo_short next next.length next.length (Nat.le_refl _) i
  rw [List.take_length] at h1
  have h2 := (checkB_iff.1 hc).2.1
  unfold backL
  omega
set_option maxRecDepth 100000 in
set_option maxHeartbeats 8000000 in
theorem law_back (nn : Int) (a : Option Addr) (m cap : Nat) (zs : List Int) (pa pb : Int) (w : World) (h : Byts w a m zs) (hnn : 0 ≤ nn ∧ nn ≤ 255) (hpa : 0 ≤ pa ∧ pa ≤ 255) (hpb : 0 ≤ pb ∧ pb ≤ 255) :
    Calls Try.prog 6 #[.int .u8 nn, .slice a m cap, .int .u8 pa, .int .u8 pb] w fun e w' => e = .returned (.bool true) ∧ Keeps Non w w' := by
  have HMa := hide (made_l nn a m cap zs w h hnn)
  have hNb := madeN_bd nn
  obtain ⟨next, hnx⟩ : ∃ next, madeE nn zs = next := ⟨_, rfl⟩
  have HC := hide (madeE_check nn zs)
  have HSh := hide (madeE_sh nn zs)
  have hnl := madeE_length nn zs
  obtain ⟨N, hN⟩ : ∃ N, madeN nn = N := ⟨_, rfl⟩
  rw [hnx, hN] at hnl
  rw [hnx] at HMa HC HSh
  rw [hN] at hNb
  have HNl := hide hnl
  obtain ⟨p, hp⟩ : ∃ s : Nat, pa % (N : Int) = (s : Int) := ⟨(pa % (N : Int)).toNat, by have := Int.emod_nonneg pa (b := (N : Int)) (by omega); omega⟩
  have hpN : p < N := by have := Int.emod_lt_of_pos pa (b := (N : Int)) (by omega); omega
  obtain ⟨q, hq⟩ : ∃ s : Nat, pb % (N : Int) = (s : Int) := ⟨(pb % (N : Int)).toNat, by have := Int.emod_nonneg pb (b := (N : Int)) (by omega); omega⟩
  have hqN : q < N := by have := Int.emod_lt_of_pos pb (b := (N : Int)) (by omega); omega
  have HBP := back_plain HC.out (p := p) (q := q) (by omega) (by omega)
  have hbs := backL_short HC.out
  have hgs := backL_short (back_check HC.out)
  have hbl := backL_length next next.length
  rw [backL_length] at hgs
  rw [hnl] at HBP hbs hgs hbl
  have hgl := backL_length (backL next N) N
  have hwl : (waysL next N p).length = N := goW_length _ _
  have hwl2 : (waysL (backL next N) N q).length = N := goW_length _ _
  have hag := HBP.again
  have hedge := HBP.edge
  have hways := HBP.ways
  have HBc := hide HBP.check
  obtain ⟨Bk, hBk⟩ : ∃ Bk, backL next N = Bk := ⟨_, rfl⟩
  rw [hBk] at hbs hgs hbl hgl hwl2 hag hedge hways HBc
  obtain ⟨Bg, hBg⟩ : ∃ B2, backL Bk N = B2 := ⟨_, rfl⟩
  rw [hBg] at hgs hgl hag
  obtain ⟨W1, hW1⟩ : ∃ Wy, waysL next N p = Wy := ⟨_, rfl⟩
  obtain ⟨W2, hW2⟩ : ∃ Wy, waysL Bk N q = Wy := ⟨_, rfl⟩
  rw [hW1] at hwl hways
  rw [hW2] at hwl2 hways
  have HBke := hide hBk
  have HBge := hide hBg
  have HW1e := hide hW1
  have HW2e := hide hW2
  have HBs := hide hbs
  have HGs := hide hgs
  have HBl := hide hbl
  have HGl := hide hgl
  have HWl := hide hwl
  have HWl2 := hide hwl2
  have HAg := hide hag
  have HEd := hide hedge
  have HWs := hide hways
  have q1 : pa.tmod (N : Int) = (p : Int) := by rw [Int.tmod_eq_emod_of_nonneg (by omega), hp]
  have q2 : IntKind.i64.wrap pa = pa := IntWalk.i64_in _ (by omega)
  have s1 : pb.tmod (N : Int) = (q : Int) := by rw [Int.tmod_eq_emod_of_nonneg (by omega), hq]
  have s2 : IntKind.i64.wrap pb = pb := IntWalk.i64_in _ (by omega)
  have r3 : ¬ N = 0 := by omega
  have r4 : ¬ (N : Int) = 0 := by omega
  clear h hnx hN hnl hp hq hBk hBg hW1 hW2 HBP hbs hgs hbl hgl hwl hwl2 hag hedge hways
  go_enter Try.func6, Try.ntmps6
  go_wp2_with fail
  refine HMa.out.mono ?_
  rintro e w1 ⟨v, rfl, B, S, rfl, hB, hRa, hk1⟩
  rw [HNl.out]
  have HR : Hid (Rows w1 (some ⟨B, 0, none⟩) N next) := by
    have h := hRa.rows (by rw [HNl.out]; omega) (fun i => by have := HSh.out i; omega)
    rw [HNl.out] at h
    exact h
  have HK := hide hk1
  clear hRa hk1 hB HMa
  go_wp2_with fail
  refine wp_region_onto (by kernel_rfl) (by kernel_rfl) ?_
  repeat (go_big_quiet_step (fail))
  refine wpQuiet_nil ?_
  rintro _ ⟨u, rfl⟩
  obtain ⟨x0, hx0⟩ : ∃ x0, onto w1 u = x0 := ⟨_, rfl⟩
  have hk0 := onto_keeps w1 u
  rw [hx0] at hk0 ⊢
  replace HR := hide (HR.out.non hk0)
  replace HK := hide (HK.out.then hk0)
  clear hx0 hk0
  have C1 := hide (back_yes (some ⟨B, 0, none⟩) N N next x0 HR.out HC.out)
  rw [HBke.out] at C1
  go_wp2_with fail
  refine C1.out.mono ?_
  rintro e x1 ⟨v, rfl, BM, SM, rfl, hBM, hRM, hk⟩
  rw [HBl.out]
  have HRM : Hid (Rows x1 (some ⟨BM, 0, none⟩) N Bk) := by
    have h := hRM.rows (by rw [HBl.out]; omega) (fun i => by have := HBs.out i; omega)
    rw [HBl.out] at h
    exact h
  replace HR := hide (HR.out.non hk)
  replace HK := hide (HK.out.then hk)
  clear hk hBM hRM C1
  have C2 := hide (back_yes (some ⟨BM, 0, none⟩) N N Bk x1 HRM.out HBc.out)
  rw [HBge.out] at C2
  go_wp2_with fail
  refine C2.out.mono ?_
  rintro e x2 ⟨v, rfl, BG, SG, rfl, hBG, hRG, hk⟩
  rw [HGl.out]
  have HRG : Hid (Rows x2 (some ⟨BG, 0, none⟩) N Bg) := by
    have h := hRG.rows (by rw [HGl.out]; omega) (fun i => by have := HGs.out i; omega)
    rw [HGl.out] at h
    exact h
  replace HR := hide (HR.out.non hk)
  replace HRM := hide (HRM.out.non hk)
  replace HK := hide (HK.out.then hk)
  clear hk hBG hRG C2
  go_wp2_with fail
  go_loopw [64] (fun t wr => ∃ k : Nat, k ≤ N ∧ t = .int .i64 k ∧ Hid (Keeps Non x2 wr)) (fun t _ => N - (intOf t).toNat)
  case atStart => exact ⟨0, by omega, rfl, Keeps.refl _ _⟩
  case round =>
    obtain ⟨k, hk, rfl, HKr⟩ := hrel
    by_cases hlt : k < N
    · obtain ⟨b1, o1, ha1, lb1, hc1⟩ := (HR.out.non HKr.out).at (by omega)
      cases ha1
      obtain ⟨a1, c1, cr1, hI1⟩ := hc1 k hlt
      obtain ⟨b2, o2, ha2, lb2, hc2⟩ := (HRG.out.non HKr.out).at (by omega)
      cases ha2
      obtain ⟨a2, c2, cr2, hI2⟩ := hc2 k hlt
      rw [Nat.zero_add] at cr1 cr2
      have hgk := HAg.out k hlt
      have hl1 := HSh.out k
      obtain ⟨nk, hnk⟩ : ∃ l, next.getD k [] = l := ⟨_, rfl⟩
      obtain ⟨gk, hgk2⟩ : ∃ l, Bg.getD k [] = l := ⟨_, rfl⟩
      obtain ⟨l1, hl⟩ : ∃ l, nk.length = l := ⟨_, rfl⟩
      obtain ⟨l2, hl2⟩ : ∃ l, gk.length = l := ⟨_, rfl⟩
      rw [hnk, hl] at cr1 hI1 hl1
      rw [hgk2, hl2] at cr2 hI2
      rw [hgk2, hnk] at hgk
      have hsl : (sortL nk).length = l1 := by rw [sortL_length, hl]
      have HI1 := hide hI1
      have HI2 := hide hI2
      have Hsl := hide hsl
      have Hl1 := hide (show l1 ≤ 100000 by omega)
      have HE : Hid (decide (gk = Lib.compact (sortL nk)) = true) := by show _ = _; rw [decide_eq_true_iff]; exact hgk
      have z0 : (0 : Int) ≤ (k : Int) := by omega
      have z1 : (k : Int) < (N : Int) := by omega
      clear hc1 hc2 hnk hgk2 hl hl2 hI1 hI2 hsl hgk hl1
      go_wp2_with fail
      go_region_with (first | (go_at_call 24; refine (val_q wr _ ((Keeps.refl Non wr).drew) a1 l1 c1).mono ?_; rintro e w4 ⟨b4, u4, rfl, rfl, hB4⟩) | (go_at_call 23; refine (sor_q wr _ (onto_keeps wr _) a1 l1 c1 b4 nk HI1.out Hl1.out hB4.out).mono ?_; rintro e w5 ⟨a5, c5, u5, rfl, rfl, hO5⟩) | (go_at_call 22; refine (com_q wr _ (onto_keeps wr _) a5 l1 c5 (sortL nk) Hsl.out hO5.out Hl1.out).mono ?_; rintro e w6 ⟨a6, c6, u6, rfl, rfl, hI6⟩) | (go_at_call 25; refine (eq_q wr _ (onto_keeps wr _) a2 a6 l2 _ c2 c6 gk (Lib.compact (sortL nk)) (HI2.out.non (onto_keeps wr _)) hI6.out).mono ?_; rintro e w7 ⟨u7, rfl, rfl⟩; rw [HE.out]))
      all_goals
        go_wp2_with fail
        go_roundw
        case rel => exact ⟨k + 1, by omega, by go_num, HKr.out.then (onto_keeps _ _)⟩
        case measure => simp [intOf]; omega
    · have hkn : k = N := by omega
      subst hkn
      have y9 : ¬ (k : Int) < (k : Int) := by omega
      have D1 := hide (ways_yes (some ⟨B, 0, none⟩) k k next p wr (HR.out.non HKr.out) HC.out (by omega))
      rw [HW1e.out] at D1
      go_wp2_with fail
      refine D1.out.mono ?_
      rintro e x3 ⟨v, rfl, bw, rfl, hbw, hBw, hk2⟩
      rw [HWl.out]
      have hIW := ints_of_blk hBw (by rw [HWl.out]; omega)
      rw [HWl.out] at hIW
      have HIW := hide hIW
      replace HKr := hide (HKr.out.then hk2)
      clear hbw hBw hk2 hIW D1
      have D2 := hide (ways_yes (some ⟨BM, 0, none⟩) k k Bk q x3 (HRM.out.non HKr.out) HBc.out (by omega))
      rw [HW2e.out] at D2
      go_wp2_with fail
      refine D2.out.mono ?_
      rintro e x4 ⟨v, rfl, bv, rfl, hbv, hBv, hk2⟩
      rw [HWl2.out]
      have hIV := ints_of_blk hBv (by rw [HWl2.out]; omega)
      rw [HWl2.out] at hIV
      have HIV := hide hIV
      replace HIW := hide (HIW.out.non hk2)
      replace HKr := hide (HKr.out.then hk2)
      clear hbv hBv hk2 hIV D2
      obtain ⟨y, hy⟩ : ∃ y, W1.getD q 0 = y := ⟨_, rfl⟩
      obtain ⟨b3, o3, ha3, lb3, hc3⟩ := HIW.out.at (by omega)
      cases ha3
      have cy1 := hc3 q hqN
      obtain ⟨b5, o5, ha5, lb5, hc5⟩ := HIV.out.at (by omega)
      cases ha5
      have cy2 := hc5 p hpN
      rw [Nat.zero_add] at cy1 cy2
      rw [← HWs.out, hy] at cy2
      rw [hy] at cy1
      obtain ⟨b1, o1, ha1, lb1, hc1⟩ := (HR.out.non HKr.out).at (by omega)
      cases ha1
      obtain ⟨a1, c1, cr1, hI1⟩ := hc1 p hpN
      obtain ⟨b2, o2, ha2, lb2, hc2⟩ := (HRM.out.non HKr.out).at (by omega)
      cases ha2
      obtain ⟨a2, c2, cr2, hI2⟩ := hc2 q hqN
      rw [Nat.zero_add] at cr1 cr2
      obtain ⟨np, hnp⟩ : ∃ l, next.getD p [] = l := ⟨_, rfl⟩
      obtain ⟨bq, hbq⟩ : ∃ l, Bk.getD q [] = l := ⟨_, rfl⟩
      obtain ⟨l1, hl1⟩ : ∃ l, np.length = l := ⟨_, rfl⟩
      obtain ⟨l2, hl2⟩ : ∃ l, bq.length = l := ⟨_, rfl⟩
      have hed := HEd.out
      rw [hnp, hbq] at hed
      rw [hnp, hl1] at cr1 hI1
      rw [hbq, hl2] at cr2 hI2
      have HI1 := hide hI1
      have HI2 := hide hI2
      obtain ⟨v, hv⟩ : ∃ v, decide ((q : Int) ∈ np) = v := ⟨_, rfl⟩
      have hv2 : decide ((p : Int) ∈ bq) = v := by rw [← hv, decide_eq_decide]; exact hed
      have E1 : Hid (∀ u, Calls Try.prog 26 #[.slice a1 l1 c1, .int .i64 (q : Int)] (onto x4 u) fun e w' => e = .returned (.bool v) ∧ onto x4 u = w') := fun u => (contains_l a1 l1 c1 np q _ (HI1.out.non (onto_keeps _ u))).mono fun e w' ⟨h1, h2⟩ => ⟨by rw [h1, hv], h2.symm⟩
      have E2 : Hid (∀ u, Calls Try.prog 26 #[.slice a2 l2 c2, .int .i64 (p : Int)] (onto x4 u) fun e w' => e = .returned (.bool v) ∧ onto x4 u = w') := fun u => (contains_l a2 l2 c2 bq p _ (HI2.out.non (onto_keeps _ u))).mono fun e w' ⟨h1, h2⟩ => ⟨by rw [h1, hv2], h2.symm⟩
      have p0 : (0 : Int) ≤ (p : Int) := by omega
      have p9 : (p : Int) < (k : Int) := by omega
      have q0 : (0 : Int) ≤ (q : Int) := by omega
      have q9 : (q : Int) < (k : Int) := by omega
      clear hy hc3 hc5 hc1 hc2 hnp hbq hl1 hl2 hed hI1 hI2 hv hv2 y9
      cases v
      all_goals
        go_wp2_with fail
        refine wp_region_onto (by kernel_rfl) (by kernel_rfl) ?_
        try simp only [List.append_eq, List.cons_append, List.nil_append]
        repeat (go_big_quiet_step (first | (go_at_call 26; (first | exact onto_same (E1.out _) | exact onto_same (E2.out _))) | (go_at_call 17; exact onto_call (awake_l _))))
        refine wpQuiet_nil ?_
        rintro _ ⟨u, rfl⟩
        go_wp2_with fail
        go_ret
        exact ⟨rfl, (HK.out.then HKr.out).then (onto_keeps _ _)⟩
end Go.Proofs.Ythpdflpkkiabhaa
