/-
  The reference: Musts. No condition.
-/
import Derived.Test.YthpdflpkkiabhaaXd
import Derived.Test.YthpdflpkkiabhaaXb
import Derived.Test.YthpdflpkkiabhaaXm
namespace Go.Proofs.Ythpdflpkkiabhaa
open Go.RowKit
attribute [local go_sem] onto_cell onto_frozen
set_option linter.unusedVariables false
theorem mustsL_short2 {next : List (List Int)} {s : Int} (hc : checkB next = true) (hs : 0 ≤ s ∧ s < (next.length : Int)) (k p : Nat) : ((mustTo next next.length s k).getD p []).length ≤ k := by
  by_cases hp : p < next.length
  · rw [mustTo_at hc hs p hp, List.length_map]
    exact Nat.le_trans (List.length_filter_le _ _) (by simp)
  · rw [List.getD_eq_getElem?_getD, List.getElem?_eq_none (by rw [mustTo_length]; omega)]
    simp
theorem lessR_take {next : List (List Int)} {k p : Nat} (hpk : p ≠ k) {ln : Nat} (hl : (next.getD p []).length ≤ ln) : lessR next k p = wo k ((next.getD p []).take ln) := by
  unfold lessR
  rw [if_neg hpk, List.take_of_length_le hl]
/-- What the row of p is, without k, as far as q. -/
def partR (next : List (List Int)) (k p q : Nat) : List Int := if p = k then [] else wo k ((next.getD p []).take q)
theorem partR_short (next : List (List Int)) (k p q : Nat) : (partR next k p q).length ≤ q := by
  unfold partR
  split
  · simp
  · exact wo_short _ _ _
theorem partR_zero (next : List (List Int)) (k p : Nat) : partR next k p 0 = [] := by
  unfold partR wo
  split <;> simp
theorem partR_end {next : List (List Int)} {k p q : Nat} (h : (next.getD p []).length ≤ q) : partR next k p q = lessR next k p := by
  unfold partR lessR
  rw [List.take_of_length_le h]
theorem partR_yes {next : List (List Int)} {k p q : Nat} (hq : q < (next.getD p []).length) (hp : p ≠ k) {x : Int} (hx : (next.getD p []).getD q 0 = x) (hk : x ≠ (k : Int)) : partR next k p (q + 1) = partR next k p q ++ [x] := by
  unfold partR
  rw [if_neg hp, if_neg hp, wo_yes hq (by rw [hx]; exact hk), hx]
theorem partR_no {next : List (List Int)} {k p q : Nat} (hq : q < (next.getD p []).length) (h : p = k ∨ (next.getD p []).getD q 0 = (k : Int)) : partR next k p (q + 1) = partR next k p q := by
  unfold partR
  by_cases hp : p = k
  · rw [if_pos hp, if_pos hp]
  · rw [if_neg hp, if_neg hp, wo_no hq (h.resolve_left hp)]
set_option maxRecDepth 100000 in
set_option maxHeartbeats 8000000 in
theorem refmusts_l (a : Option Addr) (n cap : Nat) (next : List (List Int)) (st : Nat) (w : World) (h : Rows w a n next) (hc : checkB next = true) (hs : st < n) (hn : n ≤ 25) (hsh : ∀ i, (next.getD i []).length ≤ 200) :
    Calls Try.prog 57 #[.slice a n cap, .int .i64 (st : Int)] w fun e w' => ∃ v, e = .returned v ∧ NewRows w w' v (mustsL next n st) := by
  obtain ⟨i0, hi, hz0, hz1, hz2⟩ := info3_parts
  obtain ⟨i1, hj, hy0, hy1, hy2⟩ := info25_parts
  have HX := hide h
  have HC := hide hc
  have hlen := h.len
  have hsr : 0 ≤ (st : Int) ∧ (st : Int) < (next.length : Int) := by rw [hlen]; omega
  have HSk := hide (fun k (hk : k < n) => must_skip hc hsr (k := k) (by omega))
  have HSt := hide (fun k p (hk : k < n) (hp : p < n) => must_step hc hsr (k := k) (p := p) (by omega) (by omega))
  have HSs := hide (fun k p => mustsL_short2 hc hsr k p)
  have HLc := hide (fun k => less_check hc k)
  rw [hlen] at HSk HSt HSs HLc
  have HSh := hide hsh
  have HW := hide (refways_l a n cap next st w h hc hs hn (fun i => by have := hsh i; omega))
  have HLl := hide (fun k => lessL_length next n k)
  have HLa := hide (fun k p (hp : p < n) => lessL_at (next := next) (k := k) hp)
  have HWl := hide (fun k => (show (waysL (lessL next n k) n (st : Int)).length = n from goW_length _ _))
  have hwl : (waysL next n (st : Int)).length = n := goW_length _ _
  obtain ⟨W, hW⟩ : ∃ W, waysL next n (st : Int) = W := ⟨_, rfl⟩
  rw [hW] at HW hwl HSk HSt
  have HWyl := hide hwl
  clear h hc hsh hlen hsr hW hwl
  go_enter Try.func57, Try.ntmps57
  go_wp2_with fail
  refine HW.out.mono ?_
  rintro e w1 ⟨v, rfl, bW, rfl, hbW, hBW, hk1⟩
  rw [HWyl.out]
  have hIW := ints_of_blk hBW (by rw [HWyl.out]; omega)
  rw [HWyl.out] at hIW
  have HIW := hide hIW
  have HK1 := hide hk1
  clear hbW hBW hk1 hIW HW
  have hms := make23 w1 n (by omega)
  obtain ⟨B, hB⟩ : ∃ B, w1.heap.size = B := ⟨_, rfl⟩
  have HBs := hide hB
  have HA0 := hide (rowsAt_made w1 (n := n) hB)
  have HK0 := hide ((Keeps.refl Non w1).alloc (.cells (List.replicate n (Value.slice none 0 0)).toArray 25))
  clear hB
  go_wp2_with fail
  rw [HBs.out]
  obtain ⟨W0, hW0⟩ : ∃ W, w1.alloc (.cells (List.replicate n (Value.slice none 0 0)).toArray 25) = W := ⟨_, rfl⟩
  have hW2 := hW0
  simp only [List.toArray_replicate] at hW2
  rw [hW0] at HA0 HK0 hms
  first | rw [hW0] | rw [hW2]
  clear hW0 hW2 hms
  go_wp2_with fail
  go_loopw [7] (fun t wr => ∃ (k : Nat) (S : List Value), k ≤ n ∧ t = .int .i64 k ∧ Hid (RowsAt wr B S (mustTo next n st k)) ∧ Hid (Keeps Non w1 wr)) (fun t _ => n - (intOf t).toNat)
  case atStart => exact ⟨0, _, by omega, rfl, HA0.out, HK0.out⟩
  case round =>
    clear HA0 HK0
    obtain ⟨k, S, hk, rfl, HA, HK⟩ := hrel
    by_cases hlt : k < n
    · obtain ⟨b2, o2, hb2, lb2, hc2⟩ := (HIW.out.non HK.out).at (by omega)
      cases hb2
      have ck := hc2 k hlt
      rw [Nat.zero_add] at ck
      have k0 : (0 : Int) ≤ (k : Int) := by omega
      have k1 : (k : Int) < (n : Int) := by omega
      by_cases hkW : W.getD k 0 < 0
      · have HE := hide (HSk.out k hlt hkW)
        obtain ⟨y, hy⟩ : ∃ y, W.getD k 0 = y := ⟨_, rfl⟩
        rw [hy] at ck hkW
        clear hc2 hy
        go_wp2_with fail
        go_roundw
        case rel => exact ⟨k + 1, S, by omega, by go_num, by rw [HE.out]; exact HA.out, HK.out⟩
        case measure => simp [intOf]; omega
      · have HSp := hide (fun p (hp : p < n) => HSt.out k p hlt hp (by omega))
        obtain ⟨y, hy⟩ : ∃ y, W.getD k 0 = y := ⟨_, rfl⟩
        rw [hy] at ck hkW
        obtain ⟨w2, hw2⟩ : ∃ w2, w2 = wr := ⟨_, rfl⟩
        subst hw2
        have HK2 := hide HK.out
        have HA2 := hide HA.out
        clear hc2 hy
        go_wp2_with fail
        clear ck lb2
        go_loopw [9, 8] (fun t v wx => ∃ (p : Nat) (S2 : List Value), p ≤ n ∧ t = .int .i64 p ∧ Hid (wx.ownsRow w2.heap.size 25 1 v p S2) ∧ Hid (Kids wx S2 ((lessL next n k).take p) v.ownBlock) ∧ Hid (Keeps Non w2 wx)) (fun t _ _ => n - (intOf t).toNat)
        case atStart => exact ⟨0, [], by omega, rfl, World.ownsRow_nil _ _ _ _, kids_none _ _ _, Keeps.refl _ _⟩
        case round =>
          clear HA HK
          obtain ⟨p, S2, hp, rfl, HO, HKd, HKx⟩ := hrel
          by_cases hpn : p < n
          · have hsp := HSh.out p
            obtain ⟨ln, hln⟩ : ∃ l, (next.getD p []).length = l := ⟨_, rfl⟩
            rw [hln] at hsp
            have HLn := hide hln
            have p0 : (0 : Int) ≤ (p : Int) := by omega
            have p1 : (p : Int) < (n : Int) := by omega
            obtain ⟨w3, hw3⟩ : ∃ w3, w3 = wr := ⟨_, rfl⟩
            subst hw3
            have HZ : Hid (partR next k p 0 = []) := partR_zero _ _ _
            clear hln
            go_wp2_with fail
            go_loopw [11, 10] (fun t u wy => ∃ (q : Nat), q ≤ ln ∧ t = .int .i64 q ∧ Hid (wy.ownsRow w3.heap.size 3 1 u (partR next k p q).length ((partR next k p q).map (Value.int .i64))) ∧ Hid (Keeps Non w3 wy)) (fun t _ _ => ln - (intOf t).toNat)
            case atStart => exact ⟨0, by omega, rfl, by rw [HZ.out]; exact World.ownsRow_nil _ _ _ _, Keeps.refl _ _⟩
            case round =>
              obtain ⟨q, hq, rfl, HU, HKy⟩ := hrel
              have hul := partR_short next k p q
              obtain ⟨ys, hys⟩ : ∃ y, partR next k p q = y := ⟨_, rfl⟩
              obtain ⟨yl, hyl⟩ : ∃ y, ys.length = y := ⟨_, rfl⟩
              rw [hys, hyl] at HU hul
              have HYs := hide hys
              have HYl := hide hyl
              clear hys hyl
              obtain ⟨a9, c9, hv9⟩ := owns_slice HU.out
              subst hv9
              obtain ⟨b2, o2, hb2, lb2, hc2⟩ := (HX.out.non (((HK1.out.then HK2.out).then HKx.out).then HKy.out)).at (by omega)
              subst hb2
              obtain ⟨ai, ci, cr, hI⟩ := hc2 p hpn
              rw [HLn.out] at cr hI
              have hll := HLn.out
              by_cases hql : q < ln
              · obtain ⟨b3, o3, hb3, lb3, hc3⟩ := hI.at (by omega)
                subst hb3
                have cq := hc3 q hql
                obtain ⟨x, hx⟩ : ∃ x, (next.getD p []).getD q 0 = x := ⟨_, rfl⟩
                rw [hx] at cq
                have q0 : (0 : Int) ≤ (q : Int) := by omega
                have q1 : (q : Int) < (ln : Int) := by omega
                by_cases hpk : p = k
                · have g1 : ((p : Int) != (k : Int)) = false := by simp [hpk]
                  have HE := hide (partR_no (next := next) (k := k) (p := p) (q := q) (by omega) (.inl hpk))
                  rw [HYs.out] at HE
                  clear hc2 hI hc3 hx hll hpk
                  go_wp2_with fail
                  go_roundw
                  case rel => exact ⟨q + 1, by omega, by go_num, by rw [HE.out, HYl.out]; exact HU.out, HKy.out⟩
                  case measure => simp [intOf]; omega
                · have g1 : ((p : Int) != (k : Int)) = true := by simp; omega
                  have g3 : ¬ (p : Int) = (k : Int) := by omega
                  by_cases hxk : x = (k : Int)
                  · have g2 : (x != (k : Int)) = false := by simp [hxk]
                    have HE := hide (partR_no (next := next) (k := k) (p := p) (q := q) (by omega) (.inr (by rw [hx]; exact hxk)))
                    rw [HYs.out] at HE
                    clear hc2 hI hc3 hx hll hpk hxk
                    go_wp2_with fail
                    go_roundw
                    case rel => exact ⟨q + 1, by omega, by go_num, by rw [HE.out, HYl.out]; exact HU.out, HKy.out⟩
                    case measure => simp [intOf]; omega
                  · have g2 : (x != (k : Int)) = true := by simp [hxk]
                    have HE := hide (partR_yes (next := next) (k := k) (p := p) (q := q) (by omega) hpk hx hxk)
                    rw [HYs.out] at HE
                    clear hc2 hI hc3 hx hll
                    go_wp2_with (at_builtin; refine wpList_append_own_at _ rfl _ _ 25 rfl w3.heap.size 3 i0 (.int .i64 0) 1 8 Try.underlying25 hi hz0 hz1 hz2 rfl (by decide) (.slice a9 yl c9) yl (ys.map (Value.int .i64)) rfl (owns_keeps HU.out ((Keeps.refl Non _).alloc _) (fun _ _ x => x)) ⟨wr.heap.size, 0, none⟩ 1 1 [.int .i64 x] rfl ?qc1 ?qc2 ?qc3 ?qc4 ?qc5 ?qc6 ?_)
                    try (case qc1 => rfl)
                    try (case qc2 => exact cell_one_new _ _ _)
                    case qc3 => first | rfl | (intro u hu; simp at hu; subst hu; rfl)
                    case qc4 => unfold maxLen; omega
                    case qc5 => omega
                    case qc6 => (try simp); have := HKy.out.size; omega
                    intro v' w5 hown hgrow hnil2 hat
                    have HO5 := hide hown
                    have HG5 := hide (keeps_grown (Keeps.refl (fun b => some b = Value.ownBlock (.slice a9 yl c9)) _) hgrow (fun g hg => .inl hg.symm))
                    have HLt := hide (owns_here HU.out)
                    clear hown hgrow hnil2 hat
                    go_wp2_with fail
                    go_roundw
                    case rel => exact ⟨q + 1, by omega, by go_num, by rw [HE.out, List.length_append, List.map_append, HYl.out]; exact HO5.out, (HKy.out.alloc _).trans HG5.out (fun i hi e => by have := (HLt.out i e.symm).1; omega)⟩
                    case measure => simp [intOf]; omega
              · have hqq : q = ln := by omega
                subst hqq
                have y9 : ¬ (q : Int) < (q : Int) := by omega
                obtain ⟨a8, c8, hv8, hI8⟩ := ints_of_owns HU.out (by omega)
                cases hv8
                have HI := hide hI8
                have HLu := hide (owns_lt HU.out)
                have hpe := partR_end (next := next) (k := k) (p := p) (q := q) (by omega)
                rw [HYs.out] at hpe
                have hla := HLa.out k p hpn
                rw [← hpe] at hla
                have HSn := hide (take_snocR (xss := lessL next n k) (k := p) (by rw [HLl.out]; exact hpn) hla)
                clear hc2 hI hI8 hpe hla hll
                go_wp2_with (at_builtin; refine wpList_append_own_at _ rfl _ _ 23 rfl w2.heap.size 25 i1 (.slice none 0 0) 1 24 Try.underlying23 hj hy0 hy1 hy2 rfl (by decide) _ p S2 rfl (owns_keeps HO.out (HKy.out.alloc _) (fun _ _ x => x)) ⟨wr.heap.size, 0, none⟩ 1 1 [.slice a9 yl c9] rfl ?qd1 ?qd2 ?qd3 ?qd4 ?qd5 ?qd6 ?_)
                try (case qd1 => rfl)
                try (case qd2 => exact cell_one_new _ _ _)
                case qd3 => first | rfl | (intro u hu; simp at hu; subst hu; rfl)
                case qd4 => unfold maxLen; omega
                case qd5 => omega
                case qd6 => (try simp); have := HKx.out.size; have := HKy.out.size; omega
                intro v' w5 hown hgrow hnil hat
                have HO5 := hide hown
                have HKd5 := hide (kids_push (c4 := c9) (v' := v') HKd.out HO.out (by rw [List.length_take, HLl.out]; omega) (HKy.out.alloc (.cells #[.slice a9 yl c9] 25)) HYl.out (HI.out.non ((Keeps.refl Non _).alloc _)) (fun b o e => by
                  subst e
                  have := HLu.out b rfl
                  rw [World.size_alloc]
                  omega) hgrow (by rw [World.size_alloc]; exact hat))
                have HKn : Hid (Keeps Non w2 w5) := keeps_grown ((HKx.out.then HKy.out).alloc _) hgrow (fun g hg => .inr (own_ge HO.out g hg))
                clear hown hgrow hnil hat
                go_wp2_with fail
                go_roundw
                case rel => exact ⟨p + 1, _, by omega, by go_num, HO5.out, by rw [HSn.out]; exact HKd5.out, HKn.out⟩
                case measure => simp [intOf]; omega
          · have hpp : p = n := by omega
            subst hpp
            have y9 : ¬ (p : Int) < (p : Int) := by omega
            have hKd := HKd.out
            rw [List.take_of_length_le (by rw [HLl.out]; exact Nat.le_refl _)] at hKd
            obtain ⟨a6, c6, hv6, hR⟩ := kids_rows hKd HO.out (HLl.out k) (by omega)
            subst hv6
            have HW9 := hide (refways_l a6 p c6 (lessL next p k) st wr hR (HLc.out k) hs hn (fun i => by
              by_cases hip : i < p
              · rw [HLa.out k i hip]
                have h1 := lessR_short next k i
                have h2 := HSh.out i
                omega
              · rw [List.getD_eq_getElem?_getD, List.getElem?_eq_none (by rw [HLl.out]; omega)]
                simp))
            have hwl := HWl.out k
            obtain ⟨W9, hW9⟩ : ∃ W, waysL (lessL next p k) p (st : Int) = W := ⟨_, rfl⟩
            rw [hW9] at HW9 hwl HSp
            have HW9l := hide hwl
            have HKx2 := hide HKx.out
            have HMs : Hid (midM next p st k 0 = mustTo next p st k) := midM_start _ _ _ _
            clear hKd hR hW9 hwl HO HKd
            go_wp2_with fail
            refine HW9.out.mono ?_
            rintro e w4 ⟨v, rfl, b9, rfl, hb9, hB9, hk9⟩
            rw [HW9l.out]
            have hkk := HKx2.out.then hk9
            have HA4 : Hid (RowsAt w4 B S (midM next p st k 0)) := by
              show RowsAt _ _ _ _
              rw [HMs.out]
              exact HA2.out.keeps hkk
            have HKw4 := hide (HK2.out.then hkk)
            have HB9 := hide hB9
            have HAp : Hid (∀ (i : Nat) (v : Value), S[i]? = some v → v.ownBlock ≠ some b9) := fun i v hv e => by
              obtain ⟨v2, h1, h2⟩ := HA2.out.row i (by
                have := (List.getElem?_eq_some_iff.1 hv).1
                rw [HA2.out.len] at this
                exact this)
              rw [hv] at h1
              cases h1
              have h3 := (owns_here h2 b9 e).2
              have h4 := HKx2.out.size
              omega
            clear hb9 hB9 hk9 hkk HW9 HKx
            go_wp2_with fail
            go_loopw [13] (fun t wx => ∃ (j : Nat) (S3 : List Value), j ≤ p ∧ t = .int .i64 j ∧ Hid (RowsAt wx B S3 (midM next p st k j)) ∧ Hid (∀ (i : Nat) (v : Value), S3[i]? = some v → v.ownBlock ≠ some b9) ∧ Hid (Blk wx b9 (W9.map (Value.int .i64)) 3) ∧ Hid (Keeps Non w1 wx)) (fun t _ => p - (intOf t).toNat)
            case atStart => exact ⟨0, S, by omega, rfl, HA4.out, HAp.out, HB9.out, HKw4.out⟩
            case round =>
              clear HA4 HAp HB9 HKw4
              obtain ⟨j, S3, hj2, rfl, HA, HAp, HB, HKj⟩ := hrel
              by_cases hjp : j < p
              · obtain ⟨b2, o2, hb2, lb2, hc2⟩ := (HIW.out.non HKj.out).at (by omega)
                cases hb2
                have cW := hc2 j hjp
                rw [Nat.zero_add] at cW
                have cS := HB.out.atI (t := j) (by rw [HW9l.out]; exact hjp)
                have lS := HB.out.lt
                have hms := HSp.out j hjp
                obtain ⟨x, hx⟩ : ∃ x, W.getD j 0 = x := ⟨_, rfl⟩
                obtain ⟨z, hz⟩ : ∃ z, W9.getD j 0 = z := ⟨_, rfl⟩
                rw [hx] at cW hms
                rw [hz] at cS hms
                have j0 : (0 : Int) ≤ (j : Int) := by omega
                have j1 : (j : Int) < (p : Int) := by omega
                clear hc2 hx hz
                by_cases hcond : 0 ≤ x ∧ (j = k ∨ (st : Int) = (k : Int) ∨ z < 0)
                · rw [if_pos hcond] at hms
                  have hmo := midM_yes hjp hms
                  obtain ⟨v, hv, ho⟩ := HA.out.row j (by rw [midM_length]; exact hjp)
                  have hysl : ((midM next p st k j).getD j []).length ≤ 100 := by
                    rw [midM_at hjp, if_neg (by omega)]
                    have := HSs.out k j
                    omega
                  obtain ⟨ys, hys⟩ : ∃ ys, (midM next p st k j).getD j [] = ys := ⟨_, rfl⟩
                  rw [hys] at ho hmo hysl
                  obtain ⟨yl, hyl⟩ : ∃ yl, ys.length = yl := ⟨_, rfl⟩
                  rw [hyl] at ho hysl
                  have HYl := hide hyl
                  have HO := hide ho
                  have HV := hide hv
                  have HMo := hide hmo
                  have cb : wr.cell? ⟨B, j, none⟩ = some v := by rw [HA.out.blk.cell]; exact hv
                  have fb := HA.out.blk.free j none
                  have lb := HA.out.blk.lt
                  obtain ⟨va, vc, rfl⟩ := owns_slice ho
                  have hgB : some B ≠ (Value.slice va yl vc).ownBlock := fun e => by
                    have := own_ge HO.out B e.symm
                    omega
                  have hg9 : some b9 ≠ (Value.slice va yl vc).ownBlock := fun e => HAp.out j _ HV.out e.symm
                  have hB9 : b9 ≠ B := fun e => by
                    have h1 := HB.out
                    have h2 := HA.out.blk
                    rw [e] at h1
                    unfold Blk at h1 h2
                    rw [h1] at h2
                    simp at h2
                  have HN5 : Hid (∀ v' w5, w5.ownsRow (B + 1) 3 1 v' (yl + 1) ((ys.map (Value.int .i64)) ++ [.int .i64 (k : Int)]) → (wr.alloc (.cells #[.int .i64 (k : Int)] 3)).grownBy w5 (Value.slice va yl vc).ownBlock → (v'.ownBlock = (Value.slice va yl vc).ownBlock ∨ v'.ownBlock = some (wr.alloc (.cells #[.int .i64 (k : Int)] 3)).heap.size) →
                      Hid (RowsAt (w5.setCell ⟨B, j, none⟩ v') B (S3.set j v') (midM next p st k (j + 1))) ∧ Hid ((∀ (i : Nat) (v : Value), (S3.set j v')[i]? = some v → v.ownBlock ≠ some b9) ∧ Blk (w5.setCell ⟨B, j, none⟩ v') b9 (W9.map (Value.int .i64)) 3 ∧ Keeps Non w1 (w5.setCell ⟨B, j, none⟩ v')) ∧ w5.cell? ⟨B, j, none⟩ = some (.slice va yl vc) ∧ w5.frozen? ⟨B, j, none⟩ = false ∧ B < w5.heap.size) := fun v' w5 hown hgrow hat => by
                    refine ⟨?_, ⟨?_, ?_, ?_⟩, ?_, ?_, ?_⟩
                    · show RowsAt _ _ _ _
                      rw [HMo.out]
                      refine HA.out.put (by rw [midM_length]; exact hjp) HV.out ((Keeps.refl Non wr).alloc _) ?_ hgrow (hat.imp id fun e g hg => ?_)
                      · rw [List.length_append, List.map_append, HYl.out]
                        exact hown
                      · rw [e] at hg
                        cases hg
                        simp
                    · intro i v hv5 e
                      rw [List.getElem?_set] at hv5
                      split at hv5
                      · split at hv5
                        · cases hv5
                          rcases hat with h6 | h6
                          · rw [h6] at e; exact hg9 e.symm
                          · rw [h6] at e
                            have e2 := Option.some.inj e
                            rw [World.size_alloc] at e2
                            omega
                        · cases hv5
                      · exact HAp.out i v hv5 e
                    · have h1 := (HB.out.keeps ((Keeps.refl Non wr).alloc (.cells #[.int .i64 (k : Int)] 3)) (fun x => x)).of_eq (hgrow.block b9 (by simp; omega) hg9)
                      exact h1.other hB9 _
                    · exact (keeps_grown (HKj.out.alloc _) hgrow (fun g hg => .inr (by have := own_ge HO.out g hg; have := HBs.out; omega))).set (.inr (by have := HBs.out; show w1.heap.size ≤ B; omega)) _
                    · exact (World.cell?_of_block (w := wr.alloc (.cells #[.int .i64 k] 3)) (hgrow.block B (by simp; omega) hgB)).trans ((((Keeps.refl Non wr).alloc (.cells #[.int .i64 k] 3)).cell (p := ⟨B, j, none⟩) lb (fun x => x)).trans cb)
                    · exact (World.frozen?_of_block (w := wr.alloc (.cells #[.int .i64 k] 3)) (hgrow.block B (by simp; omega) hgB)).trans ((((Keeps.refl Non wr).alloc (.cells #[.int .i64 k] 3)).frozen (p := ⟨B, j, none⟩) lb (fun x => x)).trans fb)
                    · have := hgrow.size; simp at this; omega
                  have gx : ¬ x < 0 := by omega
                  have gx2 : decide (0 ≤ x) = true := decide_eq_true hcond.1
                  have hcase : ((j : Int) == (k : Int)) = true ∨ (((j : Int) == (k : Int)) = false ∧ ((st : Int) == (k : Int)) = true) ∨ (((j : Int) == (k : Int)) = false ∧ ((st : Int) == (k : Int)) = false ∧ z < 0) := by
                    by_cases h1 : (j : Int) = (k : Int)
                    · exact .inl (by simpa using h1)
                    · by_cases h2 : (st : Int) = (k : Int)
                      · exact .inr (.inl ⟨by simpa using h1, by simpa using h2⟩)
                      · exact .inr (.inr ⟨by simpa using h1, by simpa using h2, by
                          rcases hcond.2 with h | h | h
                          · exact absurd (by omega) h1
                          · exact absurd h h2
                          · exact h⟩)
                  clear hms hmo hv ho hys hyl hgB hg9 hB9 hcond
                  rcases hcase with g1 | ⟨g1, g2⟩ | ⟨g1, g2, g3⟩
                  all_goals
                    go_wp2_with (at_builtin; refine wpList_append_own_at _ rfl _ _ 25 rfl (B + 1) 3 i0 (.int .i64 0) 1 8 Try.underlying25 hi hz0 hz1 hz2 rfl (by decide) _ yl (ys.map (Value.int .i64)) rfl (owns_keeps HO.out ((Keeps.refl Non _).alloc _) (fun _ _ x => x)) ⟨wr.heap.size, 0, none⟩ 1 1 [.int .i64 k] rfl rfl (cell_one_new _ _ _) (by intro u hu; simp at hu; subst hu; rfl) (by unfold maxLen; omega) (by omega) (by simp; omega) ?_; intro v' w5 hown hgrow hnil hat; obtain ⟨HRn, HKn, cb5, fb5, lb5⟩ := HN5.out v' w5 hown hgrow hat; obtain ⟨a5, c5, rfl⟩ := owns_slice hown; clear hown hgrow hnil hat)
                    go_roundw
                    case rel => exact ⟨j + 1, _, by omega, by go_num, HRn.out, HKn.out.1, HKn.out.2.1, HKn.out.2.2⟩
                    case measure => simp [intOf]; omega
                · rw [if_neg hcond] at hms
                  have HMo := hide (midM_no hjp hms)
                  have hcase : (x < 0 ∧ decide (0 ≤ x) = false) ∨ (¬ x < 0 ∧ decide (0 ≤ x) = true ∧ ((j : Int) == (k : Int)) = false ∧ ((st : Int) == (k : Int)) = false ∧ ¬ z < 0) := by
                    by_cases h0 : 0 ≤ x
                    · refine .inr ⟨by omega, decide_eq_true h0, ?_, ?_, fun h => hcond ⟨h0, .inr (.inr h)⟩⟩
                      · simp only [beq_eq_false_iff_ne, ne_eq]
                        exact fun h => hcond ⟨h0, .inl (by omega)⟩
                      · simp only [beq_eq_false_iff_ne, ne_eq]
                        exact fun h => hcond ⟨h0, .inr (.inl h)⟩
                    · exact .inl ⟨by omega, decide_eq_false h0⟩
                  have HAn := HMo
                  clear hms hcond HAn
                  rcases hcase with ⟨g0, gx⟩ | ⟨g0, gx, g1, g2, g3⟩
                  all_goals
                    go_wp2_with fail
                    go_roundw
                    case rel => exact ⟨j + 1, S3, by omega, by go_num, by rw [HMo.out]; exact HA.out, HAp.out, HB.out, HKj.out⟩
                    case measure => simp [intOf]; omega
              · have hjj : j = p := by omega
                subst hjj
                have y8 : ¬ (j : Int) < (j : Int) := by omega
                have HE : Hid (midM next j st k j = mustTo next j st (k + 1)) := midM_end _ _ _ _
                have ha := HA.out
                rw [HE.out] at ha
                have HA9 := hide ha
                clear ha
                go_wp2_with fail
                go_roundw
                case rel => exact ⟨k + 1, S3, by omega, by go_num, HA9.out, HKj.out⟩
                case measure => simp [intOf]; omega
    · have hkn : k = n := by omega
      subst hkn
      have y9 : ¬ (k : Int) < (k : Int) := by omega
      have HE : Hid (NewRows w wr (.slice (some ⟨B, 0, none⟩) k k) (mustsL next k st)) := ⟨B, S, by rw [mustsL, mustTo_length], by have := HBs.out; have := HK1.out.size; omega, HA.out, HK1.out.then HK.out⟩
      go_wp2_with fail
      try rw [Exit.noGoto_ret]
      go_ret
      exact ⟨_, rfl, HE.out⟩
end Go.Proofs.Ythpdflpkkiabhaa
