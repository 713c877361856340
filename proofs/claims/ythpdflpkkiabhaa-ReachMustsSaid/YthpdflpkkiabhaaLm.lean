/-
  ReachMusts: the walk. No condition.
-/
import Derived.Test.YthpdflpkkiabhaaIs
import Derived.Test.YthpdflpkkiabhaaLw
namespace Go.Proofs.Ythpdflpkkiabhaa
open Go.RowKit
attribute [local go_sem] onto_cell onto_frozen
set_option linter.unusedVariables false
theorem total_set_nil : ∀ (next : List (List Int)) (q : Nat), total (next.set q []) ≤ total next
  | [], _ => by simp
  | l :: ls, 0 => by simp [total]
  | l :: ls, q + 1 => by
    have := total_set_nil ls q
    simp only [List.set_cons_succ, total, List.map_cons, List.sum_cons] at this ⊢
    omega
theorem checkB_set_nil {next : List (List Int)} (h : checkB next = true) (q : Nat) : checkB (next.set q []) = true := by
  obtain ⟨h1, h2, h3⟩ := checkB_iff.1 h
  refine checkB_iff.2 ⟨by simpa using h1, Nat.le_trans (total_set_nil next q) h2, fun l hl x hx => ?_⟩
  rw [List.length_set]
  rcases List.mem_or_eq_of_mem_set hl with h4 | rfl
  · exact h3 l h4 x hx
  · simp at hx
theorem mustsL_short {next : List (List Int)} {s : Int} (hc : checkB next = true) (hs : 0 ≤ s ∧ s < (next.length : Int)) (p : Nat) : ((mustsL next next.length s).getD p []).length ≤ next.length := by
  by_cases hp : p < next.length
  · unfold mustsL
    rw [mustTo_at hc hs p hp, List.length_map]
    exact Nat.le_trans (List.length_filter_le _ _) (by simp)
  · rw [List.getD_eq_getElem?_getD, List.getElem?_eq_none (by unfold mustsL; rw [mustTo_length]; omega)]
    simp
theorem CopAt.nil {base : Nat} {w : World} {g : Nat} {S rest : List Value} {xss : List (List Int)} (h : CopAt base w g S rest xss) (hb : xss.length ≤ 100000) (hbl : ∀ j, (xss.getD j []).length ≤ 1000000) {i : Nat} (hi : i < xss.length) {v : Value} (hv : S[i]? = some v) : Rows (w.setCell ⟨g, i, none⟩ (.slice none 0 0)) (some ⟨g, 0, none⟩) xss.length (xss.set i []) :=
  h.turn hb hbl hi hv (Keeps.refl Non w) (ys := []) (by simp) (World.ownsRow_nil _ _ _ _) (World.grownBy.refl _ _) (fun b e => by cases e)
set_option maxRecDepth 100000 in
set_option maxHeartbeats 8000000 in
theorem law_musts (nn : Int) (a : Option Addr) (m cap : Nat) (zs : List Int) (st pa pb : Int) (w : World) (h : Byts w a m zs) (hnn : 0 ≤ nn ∧ nn ≤ 255) (hst : 0 ≤ st ∧ st ≤ 255) (hpa : 0 ≤ pa ∧ pa ≤ 255) (hpb : 0 ≤ pb ∧ pb ≤ 255) :
    Calls Try.prog 12 #[.int .u8 nn, .slice a m cap, .int .u8 st, .int .u8 pa, .int .u8 pb] w fun e w' => e = .returned (.bool true) ∧ Keeps Non w w' := by
  have HMa := hide (made_l nn a m cap zs w h hnn)
  have hNb := madeN_bd nn
  obtain ⟨next, hnx⟩ : ∃ next, madeE nn zs = next := ⟨_, rfl⟩
  have HC := hide (madeE_check nn zs)
  have HSh := hide (madeE_sh nn zs)
  have hnl := madeE_length nn zs
  obtain ⟨N, hN⟩ : ∃ N, madeN nn = N := ⟨_, rfl⟩
  rw [hnx, hN] at hnl
  rw [hnx] at HMa HC HSh
  rw [hN] at hNb
  have HNl := hide hnl
  obtain ⟨s, hs⟩ : ∃ s : Nat, st % (N : Int) = (s : Int) := ⟨(st % (N : Int)).toNat, by have := Int.emod_nonneg st (b := (N : Int)) (by omega); omega⟩
  have hsN : s < N := by have := Int.emod_lt_of_pos st (b := (N : Int)) (by omega); omega
  obtain ⟨p, hp⟩ : ∃ s : Nat, pa % (N : Int) = (s : Int) := ⟨(pa % (N : Int)).toNat, by have := Int.emod_nonneg pa (b := (N : Int)) (by omega); omega⟩
  have hpN : p < N := by have := Int.emod_lt_of_pos pa (b := (N : Int)) (by omega); omega
  obtain ⟨q, hq⟩ : ∃ s : Nat, pb % (N : Int) = (s : Int) := ⟨(pb % (N : Int)).toNat, by have := Int.emod_nonneg pb (b := (N : Int)) (by omega); omega⟩
  have hqN : q < N := by have := Int.emod_lt_of_pos pb (b := (N : Int)) (by omega); omega
  have HMP := musts_plain (s := (s : Int)) HC.out (by rw [hnl]; omega)
  have hms := mustsL_short (s := (s : Int)) HC.out (by rw [hnl]; omega)
  have hml : (mustsL next N s).length = N := mustTo_length next N s N
  have HC2 := hide (checkB_set_nil HC.out q)
  have hwl : (waysL next N s).length = N := goW_length _ _
  have hwl2 : (waysL (next.set q []) N s).length = N := goW_length _ _
  rw [hnl] at HMP hms
  have hcut := HMP.cut p q hpN hqN
  obtain ⟨M, hM⟩ : ∃ M, mustsL next N s = M := ⟨_, rfl⟩
  obtain ⟨Wy, hWy⟩ : ∃ Wy, waysL next N s = Wy := ⟨_, rfl⟩
  obtain ⟨W2, hW2⟩ : ∃ Wy, waysL (next.set q []) N s = Wy := ⟨_, rfl⟩
  obtain ⟨nx2, hn2⟩ : ∃ nx2, next.set q [] = nx2 := ⟨_, rfl⟩
  rw [hn2] at HC2
  rw [hM] at HMP hms hml hcut
  rw [hWy] at HMP hwl hcut
  rw [hW2] at hcut hwl2
  rw [hn2] at hW2
  have HM := hide hM
  have HWy := hide hWy
  have HW2 := hide hW2
  have HN2 := hide hn2
  have HMp := hide HMP
  have HMs := hide hms
  have HMl := hide hml
  have HWl := hide hwl
  have HWl2 := hide hwl2
  have HCut := hide hcut
  have r1 : st.tmod (N : Int) = (s : Int) := by rw [Int.tmod_eq_emod_of_nonneg (by omega), hs]
  have r2 : IntKind.i64.wrap st = st := IntWalk.i64_in _ (by omega)
  have q1 : pa.tmod (N : Int) = (p : Int) := by rw [Int.tmod_eq_emod_of_nonneg (by omega), hp]
  have q2 : IntKind.i64.wrap pa = pa := IntWalk.i64_in _ (by omega)
  have s1 : pb.tmod (N : Int) = (q : Int) := by rw [Int.tmod_eq_emod_of_nonneg (by omega), hq]
  have s2 : IntKind.i64.wrap pb = pb := IntWalk.i64_in _ (by omega)
  have r3 : ¬ N = 0 := by omega
  have r4 : ¬ (N : Int) = 0 := by omega
  clear h hnx hN hnl hs hp hq hM hWy hW2 hn2 HMP hms hml hwl hwl2 hcut
  go_enter Try.func12, Try.ntmps12
  go_wp2_with fail
  refine HMa.out.mono ?_
  rintro e w1 ⟨v, rfl, B, S, rfl, hB, hRa, hk1⟩
  rw [HNl.out]
  have HR : Hid (Rows w1 (some ⟨B, 0, none⟩) N next) := by
    have h := hRa.rows (by rw [HNl.out]; omega) (fun i => by have := HSh.out i; omega)
    rw [HNl.out] at h
    exact h
  have HK := hide hk1
  clear hRa hk1 hB HMa
  go_wp2_with fail
  refine wp_region_onto (by kernel_rfl) (by kernel_rfl) ?_
  repeat (go_big_quiet_step (fail))
  refine wpQuiet_nil ?_
  rintro _ ⟨u, rfl⟩
  obtain ⟨x0, hx0⟩ : ∃ x0, onto w1 u = x0 := ⟨_, rfl⟩
  have hk0 := onto_keeps w1 u
  rw [hx0] at hk0 ⊢
  replace HR := hide (HR.out.non hk0)
  replace HK := hide (HK.out.then hk0)
  clear hx0 hk0
  have C1 := hide (musts_yes (some ⟨B, 0, none⟩) N N next s x0 HR.out HC.out (by omega))
  rw [HM.out] at C1
  go_wp2_with fail
  refine C1.out.mono ?_
  rintro e x1 ⟨v, rfl, BM, SM, rfl, hBM, hRM, hk⟩
  rw [HMl.out]
  have HRM : Hid (Rows x1 (some ⟨BM, 0, none⟩) N M) := by
    have h := hRM.rows (by rw [HMl.out]; omega) (fun i => by have := HMs.out i; omega)
    rw [HMl.out] at h
    exact h
  replace HR := hide (HR.out.non hk)
  replace HK := hide (HK.out.then hk)
  clear hk hBM hRM C1
  have C2 := hide (ways_yes (some ⟨B, 0, none⟩) N N next s x1 HR.out HC.out (by omega))
  rw [HWy.out] at C2
  go_wp2_with fail
  refine C2.out.mono ?_
  rintro e x2 ⟨v, rfl, bw, rfl, hbw, hBw, hk⟩
  rw [HWl.out]
  have hIW := ints_of_blk hBw (by rw [HWl.out]; omega)
  rw [HWl.out] at hIW
  have HIW := hide hIW
  replace HR := hide (HR.out.non hk)
  replace HRM := hide (HRM.out.non hk)
  replace HK := hide (HK.out.then hk)
  clear hbw hBw hk hIW C2
  have CC := hide (copied_own (some ⟨B, 0, none⟩) N N next x2 HR.out (by omega) (fun i => by have := HSh.out i; omega))
  go_wp2_with fail
  refine CC.out.mono ?_
  rintro e y0 ⟨v, rfl, hcp⟩
  obtain ⟨g, cap9, S9, rest, rfl, hg, hgc, hcat⟩ := hcp.at (by rw [HNl.out]; omega)
  have hky : Keeps Non x2 y0 := by obtain ⟨_, _, _, hh⟩ := hcp; exact hh
  rw [HNl.out] at hgc ⊢
  obtain ⟨uu, huu, ho⟩ := hcat.kids.row q (by rw [HNl.out]; exact hqN)
  have cb : y0.cell? ⟨g, q, none⟩ = some uu := by
    rw [hcat.blk.cell, List.getElem?_append_left (by rw [hcat.len, HNl.out]; exact hqN)]
    exact huu
  have fb := hcat.blk.free q none
  have lb := hcat.blk.lt
  have hks : Keeps Non x2 (y0.setCell ⟨g, q, none⟩ (.slice none 0 0)) := hky.set (.inr hg) _
  have hRn := hcat.nil (by rw [HNl.out]; omega) (fun j => by have := HSh.out j; omega) (by rw [HNl.out]; exact hqN) huu
  rw [HNl.out, HN2.out] at hRn
  have HRn := hide hRn
  have HKs := hide hks
  have q0 : (0 : Int) ≤ (q : Int) := by omega
  have q9 : (q : Int) < (N : Int) := by omega
  clear hcp hg hcat hky huu ho hks hRn CC
  go_wp2_with fail
  obtain ⟨V, hV⟩ : ∃ V, y0.setCell ⟨g, q, none⟩ (.slice none 0 0) = V := ⟨_, rfl⟩
  rw [hV] at HRn HKs
  try rw [hV]
  replace HR := hide (HR.out.non HKs.out)
  replace HRM := hide (HRM.out.non HKs.out)
  replace HIW := hide (HIW.out.non HKs.out)
  replace HK := hide (HK.out.then HKs.out)
  clear hV HKs cb fb lb
  have C3 := hide (ways_yes (some ⟨g, 0, none⟩) N cap9 nx2 s V HRn.out HC2.out (by omega))
  rw [HW2.out] at C3
  refine C3.out.mono ?_
  rintro e x3 ⟨v, rfl, b2, rfl, hb2, hB2, hk⟩
  rw [HWl2.out]
  have hI2 := ints_of_blk hB2 (by rw [HWl2.out]; omega)
  rw [HWl2.out] at hI2
  have HI2 := hide hI2
  replace HRM := hide (HRM.out.non hk)
  replace HIW := hide (HIW.out.non hk)
  replace HK := hide (HK.out.then hk)
  clear hb2 hB2 hk hI2 C3 HR HRn
  obtain ⟨Mp, hMp⟩ : ∃ l, M.getD p [] = l := ⟨_, rfl⟩
  obtain ⟨ln, hln⟩ : ∃ l, Mp.length = l := ⟨_, rfl⟩
  obtain ⟨y, hy⟩ : ∃ y, Wy.getD p 0 = y := ⟨_, rfl⟩
  obtain ⟨z, hz⟩ : ∃ z, W2.getD p 0 = z := ⟨_, rfl⟩
  have HMpe := hide hMp
  have HLn := hide hln
  have HYe := hide hy
  have HZe := hide hz
  have hlN := HMs.out p
  rw [hMp, hln] at hlN
  obtain ⟨bq, oq, haq, hbq, hcq⟩ := HIW.out.at (by omega)
  cases haq
  have cw := hcq p hpN
  rw [Nat.zero_add, hy] at cw
  obtain ⟨br, or', har, hbr, hcr⟩ := HRM.out.at (by omega)
  cases har
  obtain ⟨ai, ci, cr, hIp⟩ := hcr p hpN
  rw [Nat.zero_add, hMp, hln] at cr
  rw [hMp, hln] at hIp
  have HIp := hide hIp
  have p0 : (0 : Int) ≤ (p : Int) := by omega
  have p9 : (p : Int) < (N : Int) := by omega
  clear hMp hln hy hz hbq hcq hbr hcr hIp
  by_cases hy0 : y < 0
  · have hnil := HMp.out.non p hpN (by rw [HYe.out]; exact hy0)
    have hl0 : ln = 0 := by rw [← HLn.out, ← HMpe.out, hnil]; rfl
    subst hl0
    have HAw := hide (awake_l x3)
    clear hnil
    go_wp2_with fail
    refine HAw.out.mono ?_
    rintro e x4 ⟨rfl, hk⟩
    go_wp2_with fail
    go_ret
    exact ⟨rfl, HK.out.then hk⟩
  · have HCn := hide (contains_l ai ln ci Mp (q : Int) x3 HIp.out)
    obtain ⟨mb, hmb⟩ : ∃ b, decide ((q : Int) ∈ Mp) = b := ⟨_, rfl⟩
    rw [hmb] at HCn
    have HMb := hide hmb
    have HSo := hide (isSorted_l ai ln ci Mp x3 HIp.out (fun j hj => by
      have h := HMp.out.rise p hpN
      rw [HMpe.out] at h
      have hj1 : j < Mp.length := by rw [HLn.out]; omega
      have hj2 : j + 1 < Mp.length := by rw [HLn.out]; omega
      have := List.pairwise_iff_getElem.1 h j (j + 1) hj1 hj2 (by omega)
      rw [getD_num hj1, getD_num hj2]
      omega))
    clear hmb
    go_wp2_with fail
    refine HCn.out.mono ?_
    rintro e x4 ⟨rfl, hw4⟩
    rw [hw4]
    clear hw4 x4
    go_wp2_with fail
    refine HSo.out.mono ?_
    rintro e x4 ⟨rfl, hk⟩
    replace HRM := hide (HRM.out.non hk)
    replace HIW := hide (HIW.out.non hk)
    replace HI2 := hide (HI2.out.non hk)
    replace HK := hide (HK.out.then hk)
    replace HIp := hide (HIp.out.non hk)
    clear hk HSo HCn cr cw
    obtain ⟨br, or', har, hbr, hcr⟩ := HRM.out.at (by omega)
    cases har
    obtain ⟨aj, cj, cr, hIp⟩ := hcr p hpN
    rw [Nat.zero_add, HMpe.out, HLn.out] at cr
    rw [HMpe.out, HLn.out] at hIp
    obtain ⟨bq, oq, haq, hbq, hcq⟩ := HI2.out.at (by omega)
    cases haq
    have cz := hcq p hpN
    rw [Nat.zero_add, HZe.out] at cz
    have hse := HMp.out.self p hpN (by rw [HYe.out]; omega)
    rw [HMpe.out] at hse
    have HIp2 := hide hIp
    have HC1 := hide (contains_l aj ln cj Mp (p : Int) x4 hIp)
    have HC3 := hide (contains_l aj ln cj Mp (s : Int) x4 hIp)
    rw [decide_eq_true hse.1] at HC1
    rw [decide_eq_true hse.2] at HC3
    clear hcr hIp hbr hbq hcq hse
    have hy1 : 0 ≤ y := by omega
    have HY0 := hide hy1
    clear hy0
    go_wp2_with fail
    refine HC1.out.mono ?_
    rintro e w5 ⟨rfl, hw⟩
    rw [hw]
    clear hw w5
    go_wp2_with fail
    refine HC3.out.mono ?_
    rintro e w5 ⟨rfl, hw⟩
    rw [hw]
    clear hw w5
    have hcase : ((p : Int) != (q : Int)) = false ∨ (((p : Int) != (q : Int)) = true ∧ mb = true ∧ decide (z < 0) = true) ∨ (((p : Int) != (q : Int)) = true ∧ mb = false ∧ decide (z < 0) = false) := by
      by_cases hpq : p = q
      · exact .inl (by simp [hpq])
      · have g1 : ((p : Int) != (q : Int)) = true := by simp; omega
        have hiff := HCut.out hpq (by rw [HYe.out]; exact HY0.out)
        rw [HMpe.out, HZe.out] at hiff
        by_cases hz0 : z < 0
        · exact .inr (.inl ⟨g1, by rw [← HMb.out]; exact decide_eq_true (hiff.2 hz0), decide_eq_true hz0⟩)
        · exact .inr (.inr ⟨g1, by rw [← HMb.out]; exact decide_eq_false (fun h => hz0 (hiff.1 h)), decide_eq_false hz0⟩)
    clear HMb
    rcases hcase with g1 | ⟨g1, rfl, hz0⟩ | ⟨g1, rfl, hz0⟩
    all_goals go_wp2_with fail
    all_goals
      clear g1 cr cz
      go_loopw [160] (fun t wr => ∃ k : Nat, k ≤ ln ∧ t = .int .i64 k ∧ Hid (Keeps Non x4 wr)) (fun t _ => ln - (intOf t).toNat)
      case atStart => exact ⟨0, by omega, rfl, Keeps.refl _ _⟩
      case round =>
        obtain ⟨k, hk, rfl, HKr⟩ := hrel
        by_cases hlt : k < ln
        · obtain ⟨b8, o8, ha8, hb8, hc8⟩ := (HIp2.out.non HKr.out).at (by omega)
          subst ha8
          have ck := hc8 k hlt
          obtain ⟨x, hx⟩ : ∃ x, Mp.getD k 0 = x := ⟨_, rfl⟩
          rw [hx] at ck
          have hxm : x ∈ Mp := by
            have hl : k < Mp.length := by rw [HLn.out]; exact hlt
            rw [← hx, getD_num hl]
            exact List.getElem_mem hl
          have hpt := HMp.out.pt p hpN x (by rw [HMpe.out]; exact hxm)
          obtain ⟨xi, rfl⟩ := Int.eq_ofNat_of_zero_le hpt.1.1
          have HXm := hide hxm
          have hxN : xi < N := by omega
          obtain ⟨yx, hyx⟩ : ∃ y, Wy.getD xi 0 = y := ⟨_, rfl⟩
          rw [Int.toNat_natCast, hyx, HYe.out] at hpt
          obtain ⟨b9, o9, ha9, hb9, hc9⟩ := (HIW.out.non HKr.out).at (by omega)
          cases ha9
          have cx := hc9 xi hxN
          have cy := hc9 p hpN
          rw [Nat.zero_add, hyx] at cx
          rw [Nat.zero_add, HYe.out] at cy
          have z0 : (0 : Int) ≤ (k : Int) := by omega
          have z1 : (k : Int) < (ln : Int) := by omega
          have x0' : (0 : Int) ≤ (xi : Int) := by omega
          have x1' : (xi : Int) < (N : Int) := by omega
          have t1 : ¬ (xi : Int) < 0 := by omega
          have t2 : decide ((xi : Int) < 0) = false := decide_eq_false t1
          have t3 : ¬ (N : Int) ≤ (xi : Int) := by omega
          have t4 : decide ((N : Int) ≤ (xi : Int)) = false := decide_eq_false t3
          have t3n : ¬ N ≤ xi := by omega
          have t4n : decide (N ≤ xi) = false := decide_eq_false t3n
          have t5 : ¬ yx < 0 := by omega
          have t6 : decide (yx < 0) = false := decide_eq_false t5
          have t7 : ¬ y < yx := by omega
          have t8 : decide (y < yx) = false := decide_eq_false t7
          clear hx hxm hpt hyx hc8 hc9
          go_wp2_with fail
          refine wp_region_onto (by kernel_rfl) (by kernel_rfl) ?_
          try simp only [List.append_eq, List.cons_append, List.nil_append]
          repeat (go_big_quiet_step (fail))
          refine wpQuiet_nil ?_
          rintro _ ⟨u, rfl⟩
          obtain ⟨x5, hx5⟩ : ∃ x5, onto wr u = x5 := ⟨_, rfl⟩
          have hk5 := HKr.out.then (onto_keeps wr u)
          rw [hx5] at hk5 ⊢
          have HK5 := hide hk5
          obtain ⟨br, or', har, hbr, hcr⟩ := (HRM.out.non hk5).at (by omega)
          cases har
          obtain ⟨ak, ck', cr, hIk⟩ := hcr p hpN
          rw [Nat.zero_add, HMpe.out, HLn.out] at cr
          rw [HMpe.out, HLn.out] at hIk
          have HIk := hide hIk
          clear hx5 hk5 hcr hbr hIk ck cx cy hb8 hb9
          have hln2 : ln ≤ 100000 := by omega
          go_wp2_with fail
          have HK6 := hide HK5.out
          clear cr
          go_loopw [195] (fun t wr => ∃ j : Nat, j ≤ ln ∧ t = .int .i64 j ∧ Hid (Keeps Non x5 wr)) (fun t _ => ln - (intOf t).toNat)
          case atStart => exact ⟨0, by omega, rfl, Keeps.refl _ _⟩
          case round =>
            obtain ⟨j, hj, rfl, HKs⟩ := hrel
            by_cases hjl : j < ln
            · obtain ⟨b8, o8, ha8, hb8, hc8⟩ := (HIk.out.non HKs.out).at (by omega)
              subst ha8
              have ck := hc8 j hjl
              obtain ⟨y2, hy2⟩ : ∃ x, Mp.getD j 0 = x := ⟨_, rfl⟩
              rw [hy2] at ck
              have hym : y2 ∈ Mp := by
                have hl : j < Mp.length := by rw [HLn.out]; exact hjl
                rw [← hy2, getD_num hl]
                exact List.getElem_mem hl
              have hpt := (HMp.out.pt p hpN y2 (by rw [HMpe.out]; exact hym)).1
              have hline := HMp.out.line p hpN xi (by rw [HMpe.out]; exact HXm.out) y2 (by rw [HMpe.out]; exact hym)
              obtain ⟨yi, rfl⟩ := Int.eq_ofNat_of_zero_le hpt.1
              have hyN : yi < N := by omega
              rw [Int.toNat_natCast, Int.toNat_natCast] at hline
              obtain ⟨bm, om, ham, hbm, hcm⟩ := (HRM.out.non (HK6.out.then HKs.out)).at (by omega)
              cases ham
              obtain ⟨a1, c1, cr1, hI1⟩ := hcm xi hxN
              obtain ⟨a2, c2, cr2, hI2⟩ := hcm yi hyN
              rw [Nat.zero_add] at cr1 cr2
              obtain ⟨Mx, hMx⟩ : ∃ l, M.getD xi [] = l := ⟨_, rfl⟩
              obtain ⟨My, hMy⟩ : ∃ l, M.getD yi [] = l := ⟨_, rfl⟩
              obtain ⟨lx, hlx⟩ : ∃ l, Mx.length = l := ⟨_, rfl⟩
              obtain ⟨ly, hly⟩ : ∃ l, My.length = l := ⟨_, rfl⟩
              rw [hMx] at hline cr1 hI1
              rw [hMy] at hline cr2 hI2
              rw [hlx] at cr1 hI1
              rw [hly] at cr2 hI2
              have CX := hide (contains_l a1 lx c1 Mx (yi : Int) wr hI1)
              have CY := hide (contains_l a2 ly c2 My (xi : Int) wr hI2)
              have j0 : (0 : Int) ≤ (j : Int) := by omega
              have j1 : (j : Int) < (ln : Int) := by omega
              have y0' : (0 : Int) ≤ (yi : Int) := by omega
              have y1' : (yi : Int) < (N : Int) := by omega
              have u1 : ¬ (yi : Int) < 0 := by omega
              have u3 : ¬ (N : Int) ≤ (yi : Int) := by omega
              have u4 : ¬ N ≤ yi := by omega
              have u5 : decide (N ≤ yi) = false := decide_eq_false u4
              clear hy2 hym hpt hc8 hb8 hbm hcm hI1 hI2 hMx hMy hlx hly
              by_cases hin : (yi : Int) ∈ Mx
              · rw [decide_eq_true hin] at CX
                clear hin hline CY
                go_wp2_with fail
                refine CX.out.mono ?_
                rintro e w6 ⟨rfl, hw⟩
                rw [hw]
                clear hw w6
                go_wp2_with fail
                go_roundw
                case rel => exact ⟨j + 1, by omega, by go_num, HKs.out⟩
                case measure => simp [intOf]; omega
              · rw [decide_eq_false hin] at CX
                rw [decide_eq_true (hline.resolve_left hin)] at CY
                clear hin hline
                go_wp2_with fail
                refine CX.out.mono ?_
                rintro e w6 ⟨rfl, hw⟩
                rw [hw]
                clear hw w6
                go_wp2_with fail
                refine CY.out.mono ?_
                rintro e w6 ⟨rfl, hw⟩
                rw [hw]
                clear hw w6
                go_wp2_with fail
                go_roundw
                case rel => exact ⟨j + 1, by omega, by go_num, HKs.out⟩
                case measure => simp [intOf]; omega
            · have hjj : j = ln := by omega
              subst hjj
              obtain ⟨bm, om, ham, hbm, hcm⟩ := (HRM.out.non (HK6.out.then HKs.out)).at (by omega)
              cases ham
              obtain ⟨a1, c1, cr1, hI1⟩ := hcm xi hxN
              rw [Nat.zero_add] at cr1
              obtain ⟨Mx, hMx⟩ : ∃ l, M.getD xi [] = l := ⟨_, rfl⟩
              obtain ⟨lx, hlx⟩ : ∃ l, Mx.length = l := ⟨_, rfl⟩
              rw [hMx, hlx] at cr1 hI1
              have hlxN := HMs.out xi
              rw [hMx, hlx] at hlxN
              have HMx := hide hMx
              have HLx := hide hlx
              have HIx := hide hI1
              have HK7 := hide (HK6.out.then HKs.out)
              have y9 : ¬ (j : Int) < (j : Int) := by omega
              clear hcm hbm hMx hlx hI1
              go_wp2_with fail
              clear cr1
              go_loopw [231] (fun t w8 => ∃ r : Nat, r ≤ lx ∧ t = .int .i64 r ∧ Hid (Keeps Non wr w8)) (fun t _ => lx - (intOf t).toNat)
              case atStart => exact ⟨0, by omega, rfl, Keeps.refl _ _⟩
              case round =>
                obtain ⟨r, hr, rfl, HKt⟩ := hrel
                by_cases hrl : r < lx
                · obtain ⟨b8, o8, ha8, hb8, hc8⟩ := (HIx.out.non HKt.out).at (by omega)
                  subst ha8
                  have ck := hc8 r hrl
                  obtain ⟨y2, hy2⟩ : ∃ x, Mx.getD r 0 = x := ⟨_, rfl⟩
                  rw [hy2] at ck
                  have hym : y2 ∈ Mx := by
                    have hl : r < Mx.length := by rw [HLx.out]; exact hrl
                    rw [← hy2, getD_num hl]
                    exact List.getElem_mem hl
                  have hin := HMp.out.trans p hpN xi (by rw [HMpe.out]; exact HXm.out) y2 (by rw [Int.toNat_natCast, HMx.out]; exact hym)
                  rw [HMpe.out] at hin
                  obtain ⟨bm, om, ham, hbm, hcm⟩ := (HRM.out.non (HK7.out.then HKt.out)).at (by omega)
                  cases ham
                  obtain ⟨a2, c2, cr2, hI2⟩ := hcm p hpN
                  rw [Nat.zero_add, HMpe.out, HLn.out] at cr2
                  rw [HMpe.out, HLn.out] at hI2
                  have CY := hide (contains_l a2 j c2 Mp y2 _ hI2)
                  rw [decide_eq_true hin] at CY
                  have j0 : (0 : Int) ≤ (r : Int) := by omega
                  have j1 : (r : Int) < (lx : Int) := by omega
                  clear hy2 hym hin hc8 hb8 hbm hcm hI2
                  go_wp2_with fail
                  refine CY.out.mono ?_
                  rintro e w6 ⟨rfl, hw⟩
                  rw [hw]
                  clear hw w6
                  go_wp2_with fail
                  go_roundw
                  case rel => exact ⟨r + 1, by omega, by go_num, HKt.out⟩
                  case measure => simp [intOf]; omega
                · have hrr : r = lx := by omega
                  subst hrr
                  have r9 : ¬ (r : Int) < (r : Int) := by omega
                  have HK8 := hide (HK7.out.then HKt.out)
                  go_wp2_with fail
                  go_roundw
                  case rel => exact ⟨k + 1, by omega, by go_num, HK8.out⟩
                  case measure => simp [intOf]; omega
        · have hkl : k = ln := by omega
          subst hkl
          have y9 : ¬ (k : Int) < (k : Int) := by omega
          have HAw := hide (awake_l wr)
          go_wp2_with fail
          refine HAw.out.mono ?_
          rintro e q2 ⟨rfl, hkq⟩
          go_wp2_with fail
          go_ret
          exact ⟨rfl, (HK.out.then HKr.out).then hkq⟩
end Go.Proofs.Ythpdflpkkiabhaa
