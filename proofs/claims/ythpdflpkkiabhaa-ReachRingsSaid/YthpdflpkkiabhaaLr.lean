/-
  ReachRings: the walk. No condition.
-/
import Derived.Test.YthpdflpkkiabhaaPr
import Derived.Test.YthpdflpkkiabhaaVs
import Derived.Test.YthpdflpkkiabhaaLf
namespace Go.Proofs.Ythpdflpkkiabhaa
open Go.RowKit
attribute [local go_sem] onto_cell onto_frozen
set_option linter.unusedVariables false
theorem rowT_short {R : List Int} {c : Nat} {out : List (List Int)} {l : List Int} {m : Nat} (h : ∀ b, (out.getD b []).length ≤ m) : ((rowT R c out l).getD c []).length ≤ m + l.length := by
  unfold rowT
  by_cases hc : c < out.length
  · rw [getD_set hc, if_pos rfl, List.length_append, List.length_map]
    have := h c
    omega
  · rw [List.set_eq_of_length_le (by omega)]
    have := h c
    omega
/-- Count, of a partition. -/
theorem count_q (a : Option Addr) (n cap : Nat) (xs : List Int) (c : Nat) (w : World) (h : Ints w a n xs) (hp : IsP xs) (hc : cnt xs = c) (hn : n ≤ 1024) :
    Calls Try.prog 16 #[.slice a n cap] w fun e w' => e = .returned (.tuple #[.int .i64 (c : Int), .int .i64 0]) ∧ Keeps Non w w' := by
  have hl := h.len
  have hg : Good xs := by
    rw [← show numb [] xs = xs from hp]
    exact good_numb xs (by omega)
  refine (countE_l a n cap xs w h hg).mono fun e w' ⟨he, hk⟩ => ⟨?_, hk⟩
  rw [he, show countR xs = ((cnt xs : Int), 0) from if_pos (rightB_iff.2 ⟨by omega, hp⟩), hc]
set_option maxRecDepth 100000 in
set_option maxHeartbeats 8000000 in
theorem law_rings (nn : Int) (a : Option Addr) (m cap : Nat) (zs : List Int) (pa pb : Int) (w : World) (h : Byts w a m zs) (hnn : 0 ≤ nn ∧ nn ≤ 255) (hpa : 0 ≤ pa ∧ pa ≤ 255) (hpb : 0 ≤ pb ∧ pb ≤ 255) :
    Calls Try.prog 3 #[.int .u8 nn, .slice a m cap, .int .u8 pa, .int .u8 pb] w fun e w' => e = .returned (.bool true) ∧ Keeps Non w w' := by
  obtain ⟨i0, hi, hz0, hz1, hz2⟩ := info3_parts
  have HMa := hide (made_l nn a m cap zs w h hnn)
  have hNb := madeN_bd nn
  obtain ⟨next, hnx⟩ : ∃ next, madeE nn zs = next := ⟨_, rfl⟩
  have HC := hide (madeE_check nn zs)
  have HSh := hide (madeE_sh nn zs)
  have hnl := madeE_length nn zs
  obtain ⟨N, hN⟩ : ∃ N, madeN nn = N := ⟨_, rfl⟩
  rw [hnx, hN] at hnl
  rw [hnx] at HMa HC HSh
  rw [hN] at hNb
  have HNl := hide hnl
  obtain ⟨p, hp⟩ : ∃ s : Nat, pa % (N : Int) = (s : Int) := ⟨(pa % (N : Int)).toNat, by have := Int.emod_nonneg pa (b := (N : Int)) (by omega); omega⟩
  have hpN : p < N := by have := Int.emod_lt_of_pos pa (b := (N : Int)) (by omega); omega
  obtain ⟨q, hq⟩ : ∃ s : Nat, pb % (N : Int) = (s : Int) := ⟨(pb % (N : Int)).toNat, by have := Int.emod_nonneg pb (b := (N : Int)) (by omega); omega⟩
  have hqN : q < N := by have := Int.emod_lt_of_pos pb (b := (N : Int)) (by omega); omega
  obtain ⟨R, hR⟩ : ∃ R, ringsL next next.length = R := ⟨_, rfl⟩
  obtain ⟨c, hcn⟩ : ∃ c, cnt R = c := ⟨_, rfl⟩
  have HRP := rings_plain HC.out hR hcn
  have hRl := ringsL_length next next.length
  rw [hR, hnl] at hRl
  rw [hnl] at HRP hR
  have htl := togTo_length next R c
  have hts := fun k (hk : k ≤ next.length) => togTo_short (R := R) (c := c) k hk
  have hsame := HRP.same p q hpN hqN
  have hfew := HRP.few
  have hwl1 : (waysL next N p).length = N := goW_length _ _
  have hwl2 : (waysL next N q).length = N := goW_length _ _
  obtain ⟨W1, hW1⟩ : ∃ Wy, waysL next N p = Wy := ⟨_, rfl⟩
  obtain ⟨W2, hW2⟩ : ∃ Wy, waysL next N q = Wy := ⟨_, rfl⟩
  rw [hW1] at hwl1 hsame
  rw [hW2] at hwl2 hsame
  have HBd := hide HRP.bd
  have HTc := hide HRP.check
  have HTp := hide HRP.isP2
  have HTa := hide HRP.apart
  have HIp := hide HRP.isP
  have HRe := hide hR
  have HCn := hide hcn
  have HRl := hide hRl
  have HTl := hide htl
  have HTs := hide hts
  have HSa := hide hsame
  have HWl1 := hide hwl1
  have HWl2 := hide hwl2
  have HW1e := hide hW1
  have HW2e := hide hW2
  have q1 : pa.tmod (N : Int) = (p : Int) := by rw [Int.tmod_eq_emod_of_nonneg (by omega), hp]
  have q2 : IntKind.i64.wrap pa = pa := IntWalk.i64_in _ (by omega)
  have s1 : pb.tmod (N : Int) = (q : Int) := by rw [Int.tmod_eq_emod_of_nonneg (by omega), hq]
  have s2 : IntKind.i64.wrap pb = pb := IntWalk.i64_in _ (by omega)
  have r3 : ¬ N = 0 := by omega
  have r4 : ¬ (N : Int) = 0 := by omega
  clear h hnx hN hnl hp hq hR hcn HRP hRl htl hts hsame hwl1 hwl2 hW1 hW2
  go_enter Try.func3, Try.ntmps3
  go_wp2_with fail
  refine HMa.out.mono ?_
  rintro e w1 ⟨v, rfl, B, S, rfl, hB, hRa, hk1⟩
  rw [HNl.out]
  have HR : Hid (Rows w1 (some ⟨B, 0, none⟩) N next) := by
    have h := hRa.rows (by rw [HNl.out]; omega) (fun i => by have := HSh.out i; omega)
    rw [HNl.out] at h
    exact h
  have HK := hide hk1
  clear hRa hk1 hB HMa
  go_wp2_with fail
  refine wp_region_onto (by kernel_rfl) (by kernel_rfl) ?_
  repeat (go_big_quiet_step (fail))
  refine wpQuiet_nil ?_
  rintro _ ⟨u, rfl⟩
  obtain ⟨x0, hx0⟩ : ∃ x0, onto w1 u = x0 := ⟨_, rfl⟩
  have hk0 := onto_keeps w1 u
  rw [hx0] at hk0 ⊢
  replace HR := hide (HR.out.non hk0)
  replace HK := hide (HK.out.then hk0)
  clear hx0 hk0
  have C1 := hide (rings_yes (some ⟨B, 0, none⟩) N N next x0 HR.out HC.out)
  rw [HRe.out] at C1
  go_wp2_with fail
  refine C1.out.mono ?_
  rintro e x1 ⟨v, rfl, br, rfl, hbr, hBr, hk⟩
  rw [HRl.out]
  have hIR := ints_of_blk hBr (by rw [HRl.out]; omega)
  rw [HRl.out] at hIR
  have HIR := hide hIR
  replace HR := hide (HR.out.non hk)
  replace HK := hide (HK.out.then hk)
  clear hbr hBr hk hIR C1
  have C2 := hide (ways_yes (some ⟨B, 0, none⟩) N N next p x1 HR.out HC.out (by omega))
  rw [HW1e.out] at C2
  go_wp2_with fail
  refine C2.out.mono ?_
  rintro e x2 ⟨v, rfl, b1, rfl, hb1, hB1, hk⟩
  rw [HWl1.out]
  have hI1 := ints_of_blk hB1 (by rw [HWl1.out]; omega)
  rw [HWl1.out] at hI1
  have HI1 := hide hI1
  replace HR := hide (HR.out.non hk)
  replace HIR := hide (HIR.out.non hk)
  replace HK := hide (HK.out.then hk)
  clear hb1 hB1 hk hI1 C2
  have C3 := hide (ways_yes (some ⟨B, 0, none⟩) N N next q x2 HR.out HC.out (by omega))
  rw [HW2e.out] at C3
  go_wp2_with fail
  refine C3.out.mono ?_
  rintro e x3 ⟨v, rfl, b2, rfl, hb2, hB2, hk⟩
  rw [HWl2.out]
  have hI2 := ints_of_blk hB2 (by rw [HWl2.out]; omega)
  rw [HWl2.out] at hI2
  have HI2 := hide hI2
  replace HR := hide (HR.out.non hk)
  replace HIR := hide (HIR.out.non hk)
  replace HI1 := hide (HI1.out.non hk)
  replace HK := hide (HK.out.then hk)
  clear hb2 hB2 hk hI2 C3
  have C4 := hide (count_q (some ⟨br, 0, none⟩) N N R c x3 HIR.out HIp.out HCn.out (by omega))
  go_wp2_with fail
  refine C4.out.mono ?_
  rintro e x4 ⟨rfl, hk⟩
  replace HR := hide (HR.out.non hk)
  replace HIR := hide (HIR.out.non hk)
  replace HI1 := hide (HI1.out.non hk)
  replace HI2 := hide (HI2.out.non hk)
  replace HK := hide (HK.out.then hk)
  clear hk C4
  obtain ⟨rp, hrp⟩ : ∃ y, R.getD p 0 = y := ⟨_, rfl⟩
  obtain ⟨rq, hrq⟩ : ∃ y, R.getD q 0 = y := ⟨_, rfl⟩
  obtain ⟨y1, hy1⟩ : ∃ y, W1.getD q 0 = y := ⟨_, rfl⟩
  obtain ⟨y2, hy2⟩ : ∃ y, W2.getD p 0 = y := ⟨_, rfl⟩
  obtain ⟨b9, o9, ha9, lr, hc9⟩ := HIR.out.at (by omega)
  cases ha9
  have crp := hc9 p hpN
  have crq := hc9 q hqN
  obtain ⟨b9, o9, ha9, l1, hc9⟩ := HI1.out.at (by omega)
  cases ha9
  have cy1 := hc9 q hqN
  obtain ⟨b9, o9, ha9, l2, hc9⟩ := HI2.out.at (by omega)
  cases ha9
  have cy2 := hc9 p hpN
  rw [Nat.zero_add] at crp crq cy1 cy2
  rw [hrp] at crp
  rw [hrq] at crq
  rw [hy1] at cy1
  rw [hy2] at cy2
  have hsa := HSa.out
  rw [hrp, hrq, hy1, hy2] at hsa
  have hcase : (decide (0 ≤ y1) = true ∧ decide (0 ≤ y2) = true ∧ (rp == rq) = true) ∨ (decide (0 ≤ y1) = true ∧ decide (0 ≤ y2) = false ∧ (rp == rq) = false) ∨ (decide (0 ≤ y1) = false ∧ (rp == rq) = false) := by
    by_cases g1 : 0 ≤ y1
    · by_cases g2 : 0 ≤ y2
      · exact .inl ⟨decide_eq_true g1, decide_eq_true g2, by simpa using hsa.2 ⟨g1, g2⟩⟩
      · exact .inr (.inl ⟨decide_eq_true g1, decide_eq_false g2, by simpa using fun e => g2 (hsa.1 e).2⟩)
    · exact .inr (.inr ⟨decide_eq_false g1, by simpa using fun e => g1 (hsa.1 e).1⟩)
  have p0 : (0 : Int) ≤ (p : Int) := by omega
  have p9 : (p : Int) < (N : Int) := by omega
  have q0 : (0 : Int) ≤ (q : Int) := by omega
  have q9 : (q : Int) < (N : Int) := by omega
  clear hrp hrq hy1 hy2 hc9 hsa HSa
  go_upto_region 7 with fail
  go_cut [116] from 64 (fun c wx => c = .bool false ∧ Hid (Keeps Non x4 wx))
  case first =>
    rcases hcase with ⟨g1, g2, g3⟩ | ⟨g1, g2, g3⟩ | ⟨g1, g3⟩
    all_goals
      refine wp_region_onto (by kernel_rfl) (by kernel_rfl) ?_
      try simp only [List.append_eq, List.cons_append, List.nil_append]
      repeat (go_big_quiet_step (fail))
      refine wpQuiet_nil ?_
      rintro _ ⟨u, rfl⟩
      go_wp2_with fail
      go_meet
      exact ⟨rfl, onto_keeps _ _⟩
  case rest =>
    obtain ⟨rfl, HK5⟩ := hcut
    clear hcase crp crq cy1 cy2 lr l1 l2 HI1 HI2 p0 p9 q0 q9
    have hms := make23 wc c (by omega)
    obtain ⟨T, hT⟩ : ∃ T, wc.heap.size = T := ⟨_, rfl⟩
    have HTs2 : Hid (wc.heap.size = T) := hT
    have HA0 := hide (rowsAt_made wc (n := c) hT)
    have HK0 := hide ((Keeps.refl Non wc).alloc (.cells (List.replicate c (Value.slice none 0 0)).toArray 25))
    clear hT
    go_wp2_with fail
    rw [HTs2.out]
    obtain ⟨W, hW⟩ : ∃ W, wc.alloc (.cells (List.replicate c (Value.slice none 0 0)).toArray 25) = W := ⟨_, rfl⟩
    have hW2 := hW
    simp only [List.toArray_replicate] at hW2
    rw [hW] at HA0 HK0 hms
    first | rw [hW] | rw [hW2]
    clear hW hW2 hms
    replace HK := hide (HK.out.then HK5.out)
    replace HR := hide (HR.out.non HK5.out)
    replace HIR := hide (HIR.out.non HK5.out)
    clear HK5
    go_loopw [121] (fun t wr => ∃ (k : Nat) (S : List Value), k ≤ N ∧ t = .int .i64 k ∧ Hid (RowsAt wr T S (togTo next R c k)) ∧ Hid (Keeps Non wc wr)) (fun t _ => N - (intOf t).toNat)
    case atStart => exact ⟨0, _, by omega, rfl, HA0.out, HK0.out⟩
    case round =>
      clear HA0 HK0
      obtain ⟨k, S2, hk, rfl, HA, HKr⟩ := hrel
      by_cases hlt : k < N
      · obtain ⟨b8, o8, ha8, lb8, hc8⟩ := HR.out.at (by omega)
        cases ha8
        obtain ⟨ai, ci, cr0, hI⟩ := hc8 k hlt
        have cr := (HKr.out.cell (p := ⟨B, 0 + k, none⟩) lb8 (fun x => x)).trans cr0
        rw [Nat.zero_add] at cr
        have hst : togTo next R c (k + 1) = rowT R (R.getD k 0).toNat (togTo next R c k) (next.getD k []) := rfl
        have hsn := HSh.out k
        have hin : ∀ t ∈ next.getD k [], 0 ≤ t ∧ t < (N : Int) := fun t ht => by
          have := checkB_succ HC.out k (by rw [HNl.out]; omega) t (by unfold succL; rw [Int.toNat_natCast]; exact ht)
          rw [HNl.out] at this
          exact this
        have hbk := HBd.out k hlt
        obtain ⟨ll, hll⟩ : ∃ l, next.getD k [] = l := ⟨_, rfl⟩
        obtain ⟨ln, hln⟩ : ∃ l, ll.length = l := ⟨_, rfl⟩
        obtain ⟨y, hy⟩ : ∃ y, R.getD k 0 = y := ⟨_, rfl⟩
        rw [hll, hln] at cr hI hsn
        rw [hll, hy] at hst
        rw [hll] at hin
        rw [hy] at hbk
        obtain ⟨ri, rfl⟩ := Int.eq_ofNat_of_zero_le hbk.1
        rw [Int.toNat_natCast] at hst
        have hric : ri < c := by omega
        have HSt := hide hst
        have HIi := hide hI
        have HLn := hide hln
        have HIn := hide hin
        have HRk := hide hy
        have HT0 : Hid (RowsAt wr T S2 (rowT R ri (togTo next R c k) (ll.take 0))) := by
          show RowsAt _ _ _ _
          rw [List.take_zero, rowT_nil (by rw [HTl.out]; exact hric)]
          exact HA.out
        have HSm : Hid (∀ q, q ≤ ln → ((rowT R ri (togTo next R c k) (ll.take q)).getD ri []).length ≤ 20000) := fun q hq => by
          have h1 := rowT_short (R := R) (c := ri) (l := ll.take q) (HTs.out k (by rw [HNl.out]; omega))
          have h2 := total_take_le next k
          have h3 := (checkB_iff.1 HC.out).2.1
          rw [List.length_take] at h1
          have : min q ll.length ≤ 60 := by omega
          omega
        have z0 : (0 : Int) ≤ (k : Int) := by omega
        have z1 : (k : Int) < (N : Int) := by omega
        clear hc8 hll hln hy hst hI hin lb8 cr0
        go_wp2_with fail
        have HKi := hide HKr.out
        clear cr
        go_loopw [128] (fun j wi => ∃ (q : Nat) (S3 : List Value), q ≤ ln ∧ j = .int .i64 q ∧ Hid (RowsAt wi T S3 (rowT R ri (togTo next R c k) (ll.take q))) ∧ Hid (Keeps Non wc wi)) (fun j _ => ln - (intOf j).toNat)
        case atStart => exact ⟨0, S2, by omega, rfl, HT0.out, HKi.out⟩
        case round =>
          clear HA HKr HT0
          obtain ⟨q, S3, hq, rfl, HA, HK2⟩ := hrel
          by_cases hql : q < ln
          · obtain ⟨b3, o3, rfl, lb3, hc3⟩ := (HIi.out.non HK2.out).at (by omega)
            have cq := hc3 q hql
            obtain ⟨t, ht⟩ : ∃ t, ll.getD q 0 = t := ⟨_, rfl⟩
            rw [ht] at cq
            have hlll : ll.length = ln := HLn.out
            have htm : t ∈ ll := by rw [← ht, getD_num (by omega)]; exact List.getElem_mem _
            have htb := HIn.out t htm
            obtain ⟨ti, rfl⟩ := Int.eq_ofNat_of_zero_le htb.1
            have htn : ti < N := by omega
            have HTk : Hid (ll.take (q + 1) = ll.take q ++ [(ti : Int)]) := take_snocI (by omega) ht
            have hsn := rowT_snoc (R := R) (c := ri) (out := togTo next R c k) (by rw [HTl.out]; exact hric) (ll.take q) (ti : Int)
            rw [← HTk.out, Int.toNat_natCast] at hsn
            have hbt := HBd.out ti htn
            obtain ⟨y, hy⟩ : ∃ y, R.getD ti 0 = y := ⟨_, rfl⟩
            rw [hy] at hsn hbt
            have hol : (rowT R ri (togTo next R c k) (ll.take q)).length = c := by rw [rowT_length, HTl.out]
            obtain ⟨v, hv, ho⟩ := HA.out.row ri (by omega)
            have hyl := HSm.out q hq
            obtain ⟨ys, hys⟩ : ∃ ys, (rowT R ri (togTo next R c k) (ll.take q)).getD ri [] = ys := ⟨_, rfl⟩
            rw [hys] at ho hsn hyl
            obtain ⟨yl, hylq⟩ : ∃ yl, ys.length = yl := ⟨_, rfl⟩
            rw [hylq] at ho hyl
            have HYl := hide hylq
            have HO := hide ho
            have HV := hide hv
            have HMo := hide hsn
            have Hol := hide hol
            obtain ⟨b9, o9, ha9, lr0, hc9⟩ := HIR.out.at (by omega)
            cases ha9
            have lrT : br < T := by have := HTs2.out; omega
            obtain ⟨b9, o9, ha9, lr, hc9⟩ := (HIR.out.non HK2.out).at (by omega)
            cases ha9
            have ck := hc9 k hlt
            have ct := hc9 ti htn
            rw [Nat.zero_add, HRk.out] at ck
            rw [Nat.zero_add, hy] at ct
            have cb : wr.cell? ⟨T, ri, none⟩ = some v := by rw [HA.out.blk.cell]; exact hv
            have fb := HA.out.blk.free ri none
            have lb := HA.out.blk.lt
            obtain ⟨va, vc, rfl⟩ := owns_slice ho
            have hgB : some T ≠ (Value.slice va yl vc).ownBlock := fun e => by
              have := own_ge HO.out T e.symm
              omega
            have hgR : some br ≠ (Value.slice va yl vc).ownBlock := fun e => by
              have := own_ge HO.out br e.symm
              omega
            have HCb : Hid (∀ w5, (wr.drew.alloc (.cells #[.int .i64 y] 3)).grownBy w5 (Value.slice va yl vc).ownBlock → w5.cell? ⟨T, ri, none⟩ = some (.slice va yl vc) ∧ w5.frozen? ⟨T, ri, none⟩ = false ∧ T < w5.heap.size ∧ w5.cell? ⟨br, k, none⟩ = some (.int .i64 (ri : Int)) ∧ w5.cell? ⟨br, ti, none⟩ = some (.int .i64 y)) := fun w5 hgrow => by
              refine ⟨?_, ?_, ?_, ?_, ?_⟩
              · exact (World.cell?_of_block (w := wr.drew.alloc (.cells #[.int .i64 y] 3)) (hgrow.block T (by simp; omega) hgB)).trans (((((Keeps.refl Non wr).drew).alloc (.cells #[.int .i64 y] 3)).cell (p := ⟨T, ri, none⟩) lb (fun x => x)).trans cb)
              · exact (World.frozen?_of_block (w := wr.drew.alloc (.cells #[.int .i64 y] 3)) (hgrow.block T (by simp; omega) hgB)).trans (((((Keeps.refl Non wr).drew).alloc (.cells #[.int .i64 y] 3)).frozen (p := ⟨T, ri, none⟩) lb (fun x => x)).trans fb)
              · have := hgrow.size
                simp at this
                omega
              · exact (World.cell?_of_block (w := wr.drew.alloc (.cells #[.int .i64 y] 3)) (hgrow.block br (by simp; omega) hgR)).trans (((((Keeps.refl Non wr).drew).alloc (.cells #[.int .i64 y] 3)).cell (p := ⟨br, k, none⟩) lr (fun x => x)).trans ck)
              · exact (World.cell?_of_block (w := wr.drew.alloc (.cells #[.int .i64 y] 3)) (hgrow.block br (by simp; omega) hgR)).trans (((((Keeps.refl Non wr).drew).alloc (.cells #[.int .i64 y] 3)).cell (p := ⟨br, ti, none⟩) lr (fun x => x)).trans ct)
            have r0 : (0 : Int) ≤ (q : Int) := by omega
            have r1 : (q : Int) < (ln : Int) := by omega
            have t0 : (0 : Int) ≤ (ti : Int) := by omega
            have t1 : (ti : Int) < (N : Int) := by omega
            have i0' : (0 : Int) ≤ (ri : Int) := by omega
            have i1' : (ri : Int) < (c : Int) := by omega
            have g1 : ¬ (ri : Int) < 0 := by omega
            have g2 : ¬ (c : Int) ≤ (ri : Int) := by omega
            have g3 : ¬ c ≤ ri := by omega
            clear hc3 ht htm htb hsn hv ho hys hylq hol hy hgB hgR hc9 lr0 hlll hbt
            go_wp2_with fail
            go_region_law (refine step_append_at rfl _ _ 25 rfl (T + 1) 3 i0 (.int .i64 0) 1 8 Try.underlying25 hi hz0 hz1 hz2 rfl (by decide) (.slice va yl vc) yl (ys.map (Value.int .i64)) (by rfl) (owns_keeps HO.out (((Keeps.refl Non wr).drew).alloc (.cells #[.int .i64 y] 3)) (fun _ _ x => x)) ⟨wr.heap.size, 0, none⟩ 1 1 [.int .i64 y] (by rfl) rfl (cell_one_new wr.drew _ _) (by intro u hu; simp at hu; subst hu; rfl) (by unfold maxLen; omega) (by omega) (by simp; omega) ?_; intro v' w5 hown hgrow hat; obtain ⟨a5, c5, rfl⟩ := owns_slice hown; obtain ⟨cb5, fb5, lb5, ck5, ct5⟩ := HCb.out w5 hgrow)
            all_goals
              have HAn : Hid (RowsAt (w5.setCell ⟨T, ri, none⟩ (.slice a5 (yl + 1) c5)) T (S3.set ri (.slice a5 (yl + 1) c5)) (rowT R ri (togTo next R c k) (ll.take (q + 1)))) := by
                show RowsAt _ _ _ _
                rw [HMo.out]
                refine HA.out.put (by rw [Hol.out]; exact hric) HV.out (((Keeps.refl Non wr).drew).alloc _) ?_ hgrow (hat.imp id fun e g hg => ?_)
                · rw [List.length_append, List.map_append, HYl.out]
                  exact hown
                · rw [e] at hg
                  cases hg
                  simp
              have HKn : Hid (Keeps Non wc (w5.setCell ⟨T, ri, none⟩ (.slice a5 (yl + 1) c5))) := (keeps_grown ((HK2.out.drew).alloc _) hgrow (fun g hg => .inr (by have := own_ge HO.out g hg; have := HTs2.out; omega))).set (.inr (by have := HTs2.out; show wc.heap.size ≤ T; omega)) _
              clear hown hgrow hat cb5 fb5 lb5 ck5 ct5
              go_wp2_with fail
              go_roundw
              case rel => exact ⟨q + 1, _, by omega, by go_num, HAn.out, HKn.out⟩
              case measure => simp [intOf]; omega
          · have hqq : q = ln := by omega
            subst hqq
            have y9 : ¬ (q : Int) < (q : Int) := by omega
            have HE : Hid (RowsAt wr T S3 (togTo next R c (k + 1))) := by
              show RowsAt _ _ _ _
              rw [HSt.out]
              have := HA.out
              rw [List.take_of_length_le (by have := HLn.out; omega)] at this
              exact this
            go_wp2_with fail
            go_roundw
            case rel => exact ⟨k + 1, S3, by omega, by go_num, HE.out, HK2.out⟩
            case measure => simp [intOf]; omega
      · have hkn : k = N := by omega
        subst hkn
        have y9 : ¬ (k : Int) < (k : Int) := by omega
        have hTr := HA.out.rows (by rw [HTl.out]; omega) (fun i => by
          have h1 := HTs.out k (by rw [HNl.out]; omega) i
          have h2 := total_take_le next k
          have h3 := (checkB_iff.1 HC.out).2.1
          omega)
        rw [HTl.out] at hTr
        have HTr := hide hTr
        obtain ⟨Tg, hTg⟩ : ∃ Tg, togTo next R c k = Tg := ⟨_, rfl⟩
        rw [hTg] at HTr HTc HTp HTa
        obtain ⟨R2, hR2⟩ : ∃ R2, ringsL Tg c = R2 := ⟨_, rfl⟩
        have hr2l := ringsL_length Tg c
        rw [hR2] at HTp HTa hr2l
        have HR2l := hide hr2l
        have D1 := hide (rings_yes (some ⟨T, 0, none⟩) c c Tg wr HTr.out HTc.out)
        rw [hR2] at D1
        clear hTr hTg hR2 hr2l HA
        go_wp2_with fail
        refine D1.out.mono ?_
        rintro e x6 ⟨v, rfl, b6, rfl, hb6, hB6, hk6⟩
        rw [HR2l.out]
        have hI6 := ints_of_blk hB6 (by rw [HR2l.out]; omega)
        rw [HR2l.out] at hI6
        have HI6 := hide hI6
        have HK6 := hide (HKr.out.then hk6)
        clear hb6 hB6 hk6 hI6 D1
        have D2 := hide (count_q (some ⟨b6, 0, none⟩) c c R2 c x6 HI6.out HTp.out HTa.out (by omega))
        go_wp2_with fail
        refine D2.out.mono ?_
        rintro e x7 ⟨rfl, hk7⟩
        have HK7 := hide (HK6.out.then hk7)
        have HAw := hide (awake_l x7)
        clear hk7 D2
        go_wp2_with fail
        refine HAw.out.mono ?_
        rintro e x8 ⟨rfl, hk8⟩
        go_wp2_with fail
        go_ret
        exact ⟨rfl, (HK.out.then HK7.out).then hk8⟩
end Go.Proofs.Ythpdflpkkiabhaa
