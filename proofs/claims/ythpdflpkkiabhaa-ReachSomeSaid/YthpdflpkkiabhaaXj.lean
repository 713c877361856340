/-
  The reference: Only. No condition.
-/
import Derived.Test.YthpdflpkkiabhaaXi
import Derived.Test.YthpdflpkkiabhaaPy
namespace Go.Proofs.Ythpdflpkkiabhaa
open Go.RowKit
attribute [local go_sem] onto_cell onto_frozen
set_option linter.unusedVariables false
theorem idx_first {l : List Int} {j : Nat} {t : Int} (hj : j < l.length) (h : l.getD j 0 = t) (hn : ∀ i, i < j → l.getD i 0 ≠ t) : l.idxOf t = j := by
  have hm : t ∈ l := by rw [← h, getD_num hj]; exact List.getElem_mem _
  have h1 := getD_idx hm
  rcases Nat.lt_trichotomy (l.idxOf t) j with h2 | h2 | h2
  · exact absurd h1 (hn _ h2)
  · exact h2
  · exfalso
    have h3 := List.not_of_lt_findIdx (p := fun x => x == t) (xs := l) (i := j) (by unfold List.idxOf at h2; exact h2)
    rw [getD_num hj] at h
    simp [h] at h3
theorem rowO_length (next : List (List Int)) (l : List Int) (p : Int) : (rowO next l p).length = (succL next p).length := by simp [rowO]
theorem rowO_at {next : List (List Int)} {l : List Int} {p : Int} {q : Nat} (hq : q < (succL next p).length) {t : Int} (ht : (succL next p).getD q 0 = t) : (rowO next l p).getD q 0 = (l.idxOf t : Int) := by
  rw [getD_num (by rw [rowO_length]; exact hq)]
  unfold rowO
  rw [List.getElem_map, ← ht, getD_num hq]
set_option maxRecDepth 100000 in
set_option maxHeartbeats 8000000 in
theorem refonly_l (a b : Option Addr) (n cap m cap2 : Nat) (next : List (List Int)) (l : List Int) (w : World) (h : Rows w a n next) (h2 : Ints w b m l) (hc : checkB next = true) (hl : ∀ x ∈ l, 0 ≤ x ∧ x < (n : Int)) (hm : m ≤ 1000) (hroom : m ≤ cap2) (hsh : ∀ i, (next.getD i []).length ≤ 200) :
    Calls Try.prog 59 #[.slice a n cap, .slice b m cap2] w fun e w' => ∃ v, e = .returned (.tuple #[v, .int .i64 (onlyE next l)]) ∧ (onlyE next l = 0 → GotRows w w' v (onlyL next l)) ∧ (onlyE next l ≠ 0 → v = .slice none 0 0 ∧ Keeps Non w w') := by
  obtain ⟨i0, hi, hz0, hz1, hz2⟩ := info3_parts
  obtain ⟨i1, hj, hy0, hy1, hy2⟩ := info25_parts
  have HX := hide h
  have HY := hide h2
  have HL := hide hl
  have HSh := hide hsh
  have HLe := hide h2.len
  have HOl : Hid ((onlyL next l).length = m) := by show _ = _; rw [onlyL_length, h2.len]
  have HOa := hide (fun i (hi : i < m) => onlyL_at (next := next) (l := l) (i := i) (by rw [h2.len]; exact hi))
  have HCd := hide (fun w' (hk : Keeps Non w w') => refclosed_l a b n cap m cap2 next l w' (h.non hk) (h2.non hk) hl hm hsh)
  clear h h2 hc hl hsh
  go_enter Try.func59, Try.ntmps59
  go_wp2_with fail
  go_loopw [6] (fun t wr => ∃ i : Nat, i ≤ m ∧ t = .int .i64 i ∧ Hid (Keeps Non w wr) ∧ Hid ((l.take i).Nodup)) (fun t _ => m - (intOf t).toNat)
  case atStart => exact ⟨0, by omega, rfl, Keeps.refl _ _, (List.nodup_nil : ([] : List Int).Nodup)⟩
  case round =>
    obtain ⟨i, hi2, rfl, HK, HN⟩ := hrel
    by_cases hlt : i < m
    · obtain ⟨b1, o1, hb1, lb1, hc1⟩ := (HY.out.non HK.out).at (by omega)
      subst hb1
      have ci' := hc1 i hlt
      obtain ⟨x, hx⟩ : ∃ x, l.getD i 0 = x := ⟨_, rfl⟩
      rw [hx] at ci'
      have hpre := ints_pre (HY.out.non HK.out) (show i ≤ m by omega)
      have i0' : (0 : Int) ≤ (i : Int) := by omega
      have i1' : (i : Int) < (m : Int) := by omega
      have i2' : (i : Int) ≤ (cap2 : Int) := by omega
      have i3' : i ≤ cap2 := by omega
      obtain ⟨v, hv⟩ : ∃ v, decide (x ∈ l.take i) = v := ⟨_, rfl⟩
      have HH : Hid (∀ u, Calls Try.prog 73 #[.slice (some ⟨b1, o1, none⟩) i cap2, .int .i64 x] (onto wr u) fun e w' => e = .returned (.bool v) ∧ Keeps Non (onto wr u) w') := fun u => by
        have := has_l (some ⟨b1, o1, none⟩) i cap2 (l.take i) x (onto wr u) (hpre.non (onto_keeps _ u))
        rw [hv] at this
        exact this
      have HV := hide hv
      have HX2 := hide hx
      clear hc1 hpre hv hx
      cases v with
      | true =>
        have HE : Hid (onlyE next l = 2) := by
          show _ = _
          unfold onlyE
          rw [if_neg]
          refine not_nodup (k := i) (by rw [HLe.out]; exact hlt) ?_
          rw [HX2.out]
          exact of_decide_eq_true HV.out
        go_wp2_with fail
        refine wp_region_onto (by kernel_rfl) (by kernel_rfl) ?_
        repeat (go_big_quiet_step (first | (go_at_call 73; exact onto_call (HH.out _))))
        refine wpQuiet_nil ?_
        rintro _ ⟨u, rfl⟩
        go_wp2_with fail
        try rw [Exit.noGoto_ret]
        go_ret2
        exact ⟨.slice none 0 0, by rw [HE.out]; rfl, fun h0 => (by rw [HE.out] at h0; cases h0), fun _ => ⟨rfl, HK.out.then (onto_keeps _ _)⟩⟩
      | false =>
        have HN2 : Hid ((l.take (i + 1)).Nodup) := nodup_snoc (by rw [HLe.out]; exact hlt) HN.out (by rw [HX2.out]; exact of_decide_eq_false HV.out)
        go_wp2_with fail
        refine wp_region_onto (by kernel_rfl) (by kernel_rfl) ?_
        repeat (go_big_quiet_step (first | (go_at_call 73; exact onto_call (HH.out _))))
        refine wpQuiet_nil ?_
        rintro _ ⟨u, rfl⟩
        go_wp2_with fail
        go_roundw
        case rel => exact ⟨i + 1, by omega, by go_num, HK.out.then (onto_keeps _ _), HN2.out⟩
        case measure => simp [intOf]; omega
    · have hii : i = m := by omega
      subst hii
      have y8 : ¬ (i : Int) < (i : Int) := by omega
      have HNd : Hid l.Nodup := by
        have := HN.out
        rwa [List.take_of_length_le (by rw [HLe.out]; exact Nat.le_refl _)] at this
      have HC1 := hide (HCd.out wr HK.out)
      by_cases hcp : closedP next l
      · rw [decide_eq_true hcp] at HC1
        have HE : Hid (onlyE next l = 0) := by show _ = _; unfold onlyE; rw [if_pos HNd.out, if_pos hcp]
        have HCp := hide hcp
        clear hcp
        go_wp2_with fail
        refine HC1.out.mono ?_
        rintro e w4 ⟨rfl, hk4⟩
        have HK4 := hide (HK.out.then hk4)
        clear hk4 HC1 HK
        go_wp2_with fail
        go_loopw [8, 7] (fun t v wr => ∃ (p : Nat) (S : List Value), p ≤ i ∧ t = .int .i64 p ∧ Hid (wr.ownsRow w.heap.size 25 1 v p S) ∧ Hid (Kids wr S ((onlyL next l).take p) v.ownBlock) ∧ Hid (Keeps Non w wr)) (fun t _ _ => i - (intOf t).toNat)
        case atStart => exact ⟨0, [], by omega, rfl, World.ownsRow_nil _ _ _ _, kids_none _ _ _, HK4.out⟩
        case round =>
          clear HK4
          obtain ⟨p, S, hp, rfl, HO, HKd, HK⟩ := hrel
          by_cases hpi : p < i
          · have hmem : l.getD p 0 ∈ l := by rw [getD_num (by rw [HLe.out]; exact hpi)]; exact List.getElem_mem _
            have hoa := HOa.out p hpi
            obtain ⟨x, hx⟩ : ∃ x, l.getD p 0 = x := ⟨_, rfl⟩
            rw [hx] at hmem hoa
            have hxb := HL.out x hmem
            obtain ⟨xi, rfl⟩ := Int.eq_ofNat_of_zero_le hxb.1
            have hxn : xi < n := by omega
            have hsl : succL next (xi : Int) = next.getD xi [] := by unfold succL; rw [Int.toNat_natCast]
            have hrl := HSh.out xi
            obtain ⟨ll, hll⟩ : ∃ y, next.getD xi [] = y := ⟨_, rfl⟩
            obtain ⟨ln, hln⟩ : ∃ y, ll.length = y := ⟨_, rfl⟩
            rw [hll] at hsl hrl
            rw [hln] at hrl
            have hrol := rowO_length next l (xi : Int)
            rw [hsl, hln] at hrol
            have HRa := hide (fun q (hq : q < ln) t (ht : ll.getD q 0 = t) => rowO_at (next := next) (l := l) (p := (xi : Int)) (q := q) (by rw [hsl, hln]; exact hq) (t := t) (by rw [hsl]; exact ht))
            have HRl := hide hrol
            have HX2 := hide hx
            have HLl := hide hll
            have HLn := hide hln
            have HIn : Hid (∀ t ∈ ll, t ∈ l) := fun t ht => HCp.out xi hmem t (by rw [hsl]; exact ht)
            have HOa2 := hide hoa
            have p0 : (0 : Int) ≤ (p : Int) := by omega
            have p1 : (p : Int) < (i : Int) := by omega
            have x0 : (0 : Int) ≤ (xi : Int) := by omega
            have x1 : (xi : Int) < (n : Int) := by omega
            obtain ⟨w3, hw3⟩ : ∃ w3, w3 = wr := ⟨_, rfl⟩
            subst hw3
            clear hmem hoa hx hsl hll hln hrol
            go_wp2_with fail
            go_loopw [10, 9] (fun t u wy => ∃ (q : Nat), q ≤ ln ∧ t = .int .i64 q ∧ Hid (wy.ownsRow w3.heap.size 3 1 u q (((rowO next l xi).take q).map (Value.int .i64))) ∧ Hid (Keeps Non w3 wy)) (fun t _ _ => ln - (intOf t).toNat)
            case atStart => exact ⟨0, by omega, rfl, World.ownsRow_nil _ _ _ _, Keeps.refl _ _⟩
            case round =>
              obtain ⟨q, hq, rfl, HU, HKy⟩ := hrel
              obtain ⟨a9, c9, hv9⟩ := owns_slice HU.out
              subst hv9
              have hk := HK.out.then HKy.out
              obtain ⟨b1, o1, hb1, lb1, hc1⟩ := (HY.out.non hk).at (by omega)
              subst hb1
              have cp := hc1 p hpi
              rw [HX2.out] at cp
              obtain ⟨b2, o2, hb2, lb2, hc2⟩ := (HX.out.non hk).at (by omega)
              subst hb2
              obtain ⟨ai, ci, cr, hI⟩ := hc2 xi hxn
              rw [HLl.out, HLn.out] at cr hI
              by_cases hql : q < ln
              · have hmem : ll.getD q 0 ∈ ll := by rw [getD_num (by rw [HLn.out]; exact hql)]; exact List.getElem_mem _
                have hra := fun t ht => HRa.out q hql t ht
                obtain ⟨t, ht⟩ : ∃ t, ll.getD q 0 = t := ⟨_, rfl⟩
                rw [ht] at hmem
                have htl := HIn.out t hmem
                have hix := List.idxOf_lt_length_of_mem htl
                rw [HLe.out] at hix
                have hgi := getD_idx htl
                have hra2 := hra t ht
                have hts := take_snocI (N := rowO next l xi) (i := q) (by rw [HRl.out]; exact hql) hra2
                obtain ⟨ix, hixe⟩ : ∃ ix, l.idxOf t = ix := ⟨_, rfl⟩
                rw [hixe] at hix hgi hts
                have HTs := hide hts
                have HIx := hide hixe
                have HGi := hide hgi
                have HTt := hide ht
                have q0 : (0 : Int) ≤ (q : Int) := by omega
                have q1 : (q : Int) < (ln : Int) := by omega
                have HU1 := hide HU.out
                have HKy1 := hide HKy.out
                clear hc1 hc2 hI hmem hra ht htl hgi hra2 hts hixe hk
                go_wp2_with fail
                clear cp cr lb1 lb2
                go_loopw [11] (fun t9 wj => ∃ (j : Nat), j ≤ ix ∧ t9 = .int .i64 j ∧ Hid (∀ k, k < j → l.getD k 0 ≠ t) ∧ Hid (wj.ownsRow w3.heap.size 3 1 (.slice a9 q c9) q (((rowO next l xi).take q).map (Value.int .i64))) ∧ Hid (Keeps Non w3 wj)) (fun t9 _ => i - (intOf t9).toNat)
                case atStart => exact ⟨0, by omega, rfl, fun k hk => by omega, HU1.out, HKy1.out⟩
                case round =>
                  clear HU HKy HU1 HKy1
                  obtain ⟨j, hj2, rfl, HNo, HU, HKy⟩ := hrel
                  have hk := HK.out.then HKy.out
                  obtain ⟨b1', o1', hb1, lb1, hc1⟩ := (HY.out.non hk).at (by omega)
                  cases hb1
                  have cp := hc1 p hpi
                  rw [HX2.out] at cp
                  have cj := hc1 j (by omega)
                  obtain ⟨b2', o2', hb2, lb2, hc2⟩ := (HX.out.non hk).at (by omega)
                  cases hb2
                  obtain ⟨ai', ci2, cr, hI⟩ := hc2 xi hxn
                  rw [HLl.out, HLn.out] at cr hI
                  obtain ⟨b3, o3, hb3, lb3, hc3⟩ := hI.at (by omega)
                  subst hb3
                  have cq := hc3 q hql
                  rw [HTt.out] at cq
                  obtain ⟨y, hy⟩ : ∃ y, l.getD j 0 = y := ⟨_, rfl⟩
                  rw [hy] at cj
                  have j0 : (0 : Int) ≤ (j : Int) := by omega
                  have j1 : (j : Int) < (i : Int) := by omega
                  by_cases hyt : y = t
                  · have hje : j = ix := by
                      rw [← HIx.out]
                      exact (idx_first (by rw [HLe.out]; omega) (by rw [hy]; exact hyt) HNo.out).symm
                    subst hje
                    have g1 : (y != t) = false := by simp [hyt]
                    clear hc1 hc2 hI hc3 hy hk
                    go_wp2_with fail
                    refine wp_region_onto (by kernel_rfl) (by kernel_rfl) ?_
                    repeat (go_big_quiet_step (fail))
                    refine wpQuiet_nil ?_
                    rintro _ ⟨u, rfl⟩
                    obtain ⟨x9, hx9⟩ : ∃ z, onto wr u = z := ⟨_, rfl⟩
                    have hk9 := onto_keeps wr u
                    rw [hx9] at hk9 ⊢
                    have HU9 := hide (owns_keeps HU.out hk9 (fun _ _ x => x))
                    have HK9 := hide (HKy.out.then hk9)
                    clear hx9 hk9 hyt g1 cp cj cr cq lb1 lb2 lb3
                    go_wp2_with (at_builtin; refine wpList_append_own_at _ rfl _ _ 25 rfl w3.heap.size 3 i0 (.int .i64 0) 1 8 Try.underlying25 hi hz0 hz1 hz2 rfl (by decide) (.slice a9 q c9) q (((rowO next l xi).take q).map (Value.int .i64)) rfl (owns_keeps HU9.out ((Keeps.refl Non _).alloc _) (fun _ _ x => x)) ⟨x9.heap.size, 0, none⟩ 1 1 [.int .i64 (j : Int)] rfl ?qc1 ?qc2 ?qc3 ?qc4 ?qc5 ?qc6 ?_)
                    try (case qc1 => rfl)
                    try (case qc2 => exact cell_one_new _ _ _)
                    case qc3 => first | rfl | (intro u hu; simp at hu; subst hu; rfl)
                    case qc4 => unfold maxLen; omega
                    case qc5 => omega
                    case qc6 => (try simp); have := HK9.out.size; omega
                    intro v' w5 hown hgrow hnil2 hat
                    have HO5 := hide hown
                    have HG5 := hide (keeps_grown (Keeps.refl (fun b => some b = Value.ownBlock (.slice a9 q c9)) _) hgrow (fun g hg => .inl hg.symm))
                    have HLt := hide (owns_here HU9.out)
                    clear hown hgrow hnil2 hat
                    go_wp2_with fail
                    go_roundw
                    case rel => exact ⟨q + 1, by omega, by go_num, by rw [HTs.out, List.map_append, List.map_take]; exact HO5.out, (HK9.out.alloc _).trans HG5.out (fun i hi e => by have := (HLt.out i e.symm).1; omega)⟩
                    case measure => simp [intOf]; omega
                  · have hne : j ≠ ix := by
                      rintro rfl
                      exact hyt (by rw [← hy]; exact HGi.out)
                    have g1 : (y != t) = true := by simp [hyt]
                    have HN2 : Hid (∀ k, k < j + 1 → l.getD k 0 ≠ t) := fun k hk => by
                      by_cases hkj : k = j
                      · subst hkj; rw [hy]; exact hyt
                      · exact HNo.out k (by omega)
                    clear hc1 hc2 hI hc3 hy hk
                    go_wp2_with fail
                    refine wp_region_onto (by kernel_rfl) (by kernel_rfl) ?_
                    repeat (go_big_quiet_step (fail))
                    refine wpQuiet_nil ?_
                    rintro _ ⟨u, rfl⟩
                    go_wp2_with fail
                    go_roundw
                    case rel => exact ⟨j + 1, by omega, by go_num, HN2.out, owns_keeps HU.out (onto_keeps _ _) (fun _ _ x => x), HKy.out.then (onto_keeps _ _)⟩
                    case measure => simp [intOf]; omega
              · have hqq : q = ln := by omega
                subst hqq
                have y9 : ¬ (q : Int) < (q : Int) := by omega
                have hu := HU.out
                rw [List.take_of_length_le (by rw [HRl.out]; exact Nat.le_refl _)] at hu
                obtain ⟨a8, c8, hv8, hI8⟩ := ints_of_owns hu (by omega)
                cases hv8
                have HI := hide hI8
                have HLu := hide (owns_lt HU.out)
                have HSn := hide (take_snocR (xss := onlyL next l) (k := p) (by rw [HOl.out]; exact hpi) HOa2.out)
                clear hc1 hc2 hI hI8 hu hk
                go_wp2_with (at_builtin; refine wpList_append_own_at _ rfl _ _ 23 rfl w.heap.size 25 i1 (.slice none 0 0) 1 24 Try.underlying23 hj hy0 hy1 hy2 rfl (by decide) _ p S rfl (owns_keeps HO.out (HKy.out.alloc _) (fun _ _ x => x)) ⟨wr.heap.size, 0, none⟩ 1 1 [.slice a9 q c9] rfl ?qd1 ?qd2 ?qd3 ?qd4 ?qd5 ?qd6 ?_)
                try (case qd1 => rfl)
                try (case qd2 => exact cell_one_new _ _ _)
                case qd3 => first | rfl | (intro u hu; simp at hu; subst hu; rfl)
                case qd4 => unfold maxLen; omega
                case qd5 => omega
                case qd6 => (try simp); have := HK.out.size; have := HKy.out.size; omega
                intro v' w5 hown hgrow hnil hat
                have HO5 := hide hown
                have HKd5 := hide (kids_push (c4 := c9) (v' := v') HKd.out HO.out (by rw [List.length_take, HOl.out]; omega) (HKy.out.alloc (.cells #[.slice a9 q c9] 25)) HRl.out (HI.out.non ((Keeps.refl Non _).alloc _)) (fun b o e => by
                  subst e
                  have := HLu.out b rfl
                  rw [World.size_alloc]
                  omega) hgrow (by rw [World.size_alloc]; exact hat))
                have HKn : Hid (Keeps Non w w5) := keeps_grown ((HK.out.then HKy.out).alloc _) hgrow (fun g hg => .inr (own_ge HO.out g hg))
                clear hown hgrow hnil hat
                go_wp2_with fail
                go_roundw
                case rel => exact ⟨p + 1, _, by omega, by go_num, HO5.out, by rw [HSn.out]; exact HKd5.out, HKn.out⟩
                case measure => simp [intOf]; omega
          · have hpp : p = i := by omega
            subst hpp
            have y9 : ¬ (p : Int) < (p : Int) := by omega
            have hKd := HKd.out
            rw [List.take_of_length_le (by rw [HOl.out]; exact Nat.le_refl _)] at hKd
            obtain ⟨a6, c6, hv6, hR⟩ := kids_rows hKd HO.out HOl.out (by omega)
            subst hv6
            have HG : Hid (GotRows w wr (.slice a6 p c6) (onlyL next l)) := ⟨a6, c6, by rw [HOl.out], by rw [HOl.out]; exact hR, HK.out⟩
            clear hKd hR
            go_wp2_with fail
            try rw [Exit.noGoto_ret]
            go_ret2
            exact ⟨.slice a6 p c6, by rw [HE.out]; rfl, fun _ => HG.out, fun h0 => absurd HE.out h0⟩
      · rw [decide_eq_false hcp] at HC1
        have HE : Hid (onlyE next l = 71) := by show _ = _; unfold onlyE; rw [if_pos HNd.out, if_neg hcp]
        clear hcp
        go_wp2_with fail
        refine HC1.out.mono ?_
        rintro e w4 ⟨rfl, hk4⟩
        have HK4 := hide (HK.out.then hk4)
        clear hk4 HC1
        go_wp2_with fail
        try rw [Exit.noGoto_ret]
        go_ret2
        exact ⟨.slice none 0 0, by rw [HE.out]; rfl, fun h0 => (by rw [HE.out] at h0; cases h0), fun _ => ⟨rfl, HK4.out⟩⟩
end Go.Proofs.Ythpdflpkkiabhaa
