/-
  Walks over layer 6's reference: agree, Next. No condition.
-/
import Derived.Test.YtkcbahfmdokalaaRe
import Derived.Test.YtkcbahfmdokalaaPa
namespace Go.Proofs.Ytkcbahfmdokalaa
open Go.RowKit
attribute [local go_sem] onto_cell onto_frozen
set_option linter.unusedVariables false
def agB (p : List Int) (next : List (List Int)) (i k : Nat) : Bool := decide (p.getD i 0 = p.getD k 0) && decide (rowOf p (next.getD i []) = rowOf p (next.getD k []))
theorem agB_iff {p : List Int} {next : List (List Int)} {i k : Nat} : agB p next i k = true ↔ Agree p next i k := by
  unfold agB Agree rowOf
  simp
theorem agB_1 {p : List Int} {next : List (List Int)} {i k : Nat} (h : p.getD i 0 ≠ p.getD k 0) : agB p next i k = false := by
  unfold agB
  rw [decide_eq_false h]
  rfl
theorem agB_2 {p : List Int} {next : List (List Int)} {i k : Nat} (h : (next.getD i []).length ≠ (next.getD k []).length) : agB p next i k = false := by
  unfold agB
  rw [decide_eq_false (p := rowOf p (next.getD i []) = rowOf p (next.getD k [])) (fun e => h (by
    have := congrArg List.length e
    simpa [rowOf] using this))]
  simp
theorem agB_3 {p : List Int} {next : List (List Int)} {i k j : Nat} (h1 : j < (next.getD i []).length) (h2 : j < (next.getD k []).length) (h : p.getD ((next.getD i []).getD j 0).toNat 0 ≠ p.getD ((next.getD k []).getD j 0).toNat 0) : agB p next i k = false := by
  unfold agB
  rw [decide_eq_false (p := rowOf p (next.getD i []) = rowOf p (next.getD k [])) (fun e => h ?_)]
  · simp
  · have e2 : (rowOf p (next.getD i [])).getD j 0 = (rowOf p (next.getD k [])).getD j 0 := by rw [e]
    rw [getD_num (by rw [rowOf_length]; exact h1), getD_num (by rw [rowOf_length]; exact h2)] at e2
    simp only [rowOf, List.getElem_map] at e2
    rw [getD_num h1, getD_num h2]
    exact e2
theorem agB_4 {p : List Int} {next : List (List Int)} {i k : Nat} (h0 : p.getD i 0 = p.getD k 0) (hl : (next.getD i []).length = (next.getD k []).length) (h : ∀ j, j < (next.getD i []).length → p.getD ((next.getD i []).getD j 0).toNat 0 = p.getD ((next.getD k []).getD j 0).toNat 0) : agB p next i k = true := by
  rw [agB_iff]
  refine ⟨h0, ?_⟩
  apply List.ext_getElem (by simpa using hl)
  intro j h1 h2
  simp only [List.length_map] at h1 h2
  simp only [List.getElem_map]
  have := h j h1
  rwa [getD_num h1, getD_num h2] at this
set_option maxRecDepth 100000 in
set_option maxHeartbeats 8000000 in
theorem agree_l (a b : Option Addr) (n cap cap2 : Nat) (p : List Int) (next : List (List Int)) (i k : Nat) (v : Bool) (w : World) (h : Ints w a n p) (h2 : Rows w b n next) (hl : NextOk n next) (hi : i < n) (hk : k < n) (hv : agB p next i k = v) (hn : n ≤ 1024) :
    Calls Try.prog 67 #[.slice a n cap, .slice b n cap2, .int .i64 i, .int .i64 k] w fun e w' => e = .returned (.bool v) ∧ Keeps Non w w' := by
  obtain ⟨b1, o1, rfl, hb1, hc1⟩ := h.at (by omega)
  obtain ⟨b2, o2, rfl, hb2, hc2⟩ := h2.at (by omega)
  have l1 := hc1 i hi
  have l2 := hc1 k hk
  obtain ⟨ai, ci, l3, hIi⟩ := hc2 i hi
  obtain ⟨ak, ck, l4, hIk⟩ := hc2 k hk
  have v1 := fun h => agB_1 (p := p) (next := next) (i := i) (k := k) h
  have v2 := fun h => agB_2 (p := p) (next := next) (i := i) (k := k) h
  have v3 := fun j h1 h2 h => agB_3 (p := p) (next := next) (i := i) (k := k) (j := j) h1 h2 h
  have v4 := fun h0 hl h => agB_4 (p := p) (next := next) (i := i) (k := k) h0 hl h
  have q1 := (hl.2 _ (getD_mem (d := []) (by rw [hl.1]; exact hi)))
  have q2 := (hl.2 _ (getD_mem (d := []) (by rw [hl.1]; exact hk)))
  rw [hv] at v1 v2 v4
  simp only [hv] at v3
  obtain ⟨x, hx⟩ : ∃ x, p.getD i 0 = x := ⟨_, rfl⟩
  obtain ⟨y, hy⟩ : ∃ x, p.getD k 0 = x := ⟨_, rfl⟩
  obtain ⟨li, hli⟩ : ∃ l, next.getD i [] = l := ⟨_, rfl⟩
  obtain ⟨lk, hlk⟩ : ∃ l, next.getD k [] = l := ⟨_, rfl⟩
  obtain ⟨ni, hni⟩ : ∃ l, li.length = l := ⟨_, rfl⟩
  obtain ⟨nk, hnk⟩ : ∃ l, lk.length = l := ⟨_, rfl⟩
  rw [hx] at l1 v1 v4
  rw [hy] at l2 v1 v4
  rw [hli] at l3 hIi v2 v4 q1
  rw [hlk] at l4 hIk v2 v4 q2
  simp only [hli, hlk] at v3
  rw [hni] at l3 hIi v2 v4 q1
  rw [hnk] at l4 hIk v2 v4 q2
  simp only [hni, hnk] at v3
  have n64 := q1.1
  have m64 := q2.1
  have HB : Hid (∀ j, j < n → w.cell? ⟨b1, o1 + j, none⟩ = some (.int .i64 (p.getD j 0))) := hc1
  have HIi := hide hIi
  have HIk := hide hIk
  have HQi : Hid (∀ j, j < ni → 0 ≤ li.getD j 0 ∧ li.getD j 0 < n) := fun j hj => q1.2 _ (getD_mem (by rw [hni]; exact hj))
  have HQk : Hid (∀ j, j < nk → 0 ≤ lk.getD j 0 ∧ lk.getD j 0 < n) := fun j hj => q2.2 _ (getD_mem (by rw [hnk]; exact hj))
  have i0 : (0 : Int) ≤ (i : Int) := by omega
  have i1 : (i : Int) < (n : Int) := by omega
  have k0 : (0 : Int) ≤ (k : Int) := by omega
  have k1 : (k : Int) < (n : Int) := by omega
  have HV3 := hide v3
  have HV4 := hide v4
  clear h h2 hl hv hc1 hc2 hIi hIk q1 q2 hx hy hli hlk hni hnk v3 v4
  by_cases hxy : x = y
  · by_cases hnn : ni = nk
    · subst hxy
      subst hnn
      clear v1 v2
      go_enter Try.func67, Try.ntmps67
      go_wp2_with fail
      refine wp_region_onto (by kernel_rfl) (by kernel_rfl) ?_
      repeat (go_big_quiet_step (fail))
      refine wpQuiet_nil ?_
      rintro _ ⟨u0, rfl⟩
      have KO := hide (onto_keeps w u0)
      go_wp2_with fail
      go_loopw [9] (fun t wr => ∃ (j : Nat), j ≤ ni ∧ t = .int .i64 j ∧ Hid (Keeps Non w wr) ∧ Hid (∀ j', j' < j → p.getD (li.getD j' 0).toNat 0 = p.getD (lk.getD j' 0).toNat 0)) (fun t _ => ni - (intOf t).toNat)
      case atStart => exact ⟨0, by omega, rfl, KO.out, fun j' h => by omega⟩
      case round =>
        clear KO
        obtain ⟨j, hj, rfl, HK, HA⟩ := hrel
        have n3 := (HK.out.cell (p := ⟨b2, o2 + i, none⟩) hb2 (fun x => x)).trans l3
        have n4 := (HK.out.cell (p := ⟨b2, o2 + k, none⟩) hb2 (fun x => x)).trans l4
        have m2 := Nat.lt_of_lt_of_le hb2 HK.out.size
        by_cases hjn : j < ni
        · obtain ⟨b5, o5, rfl, hb5, hc5⟩ := (HIi.out.non HK.out).at (by omega)
          obtain ⟨b6, o6, rfl, hb6, hc6⟩ := (HIk.out.non HK.out).at (by omega)
          have l5 := hc5 j hjn
          have l6 := hc6 j hjn
          have e5 := HQi.out j hjn
          have e6 := HQk.out j hjn
          have hv3 := HV3.out j hjn hjn
          obtain ⟨y5, hy5⟩ : ∃ y, li.getD j 0 = y := ⟨_, rfl⟩
          obtain ⟨y6, hy6⟩ : ∃ y, lk.getD j 0 = y := ⟨_, rfl⟩
          rw [hy5] at l5 e5 hv3
          rw [hy6] at l6 e6 hv3
          obtain ⟨y5, rfl⟩ : ∃ y' : Nat, y5 = y' := ⟨y5.toNat, by omega⟩
          obtain ⟨y6, rfl⟩ : ∃ y' : Nat, y6 = y' := ⟨y6.toNat, by omega⟩
          rw [Int.toNat_natCast, Int.toNat_natCast] at hv3
          have l7 := (HK.out.cell (p := ⟨b1, o1 + y5, none⟩) hb1 (fun x => x)).trans (HB.out y5 (by omega))
          have l8 := (HK.out.cell (p := ⟨b1, o1 + y6, none⟩) hb1 (fun x => x)).trans (HB.out y6 (by omega))
          have m1 := Nat.lt_of_lt_of_le hb1 HK.out.size
          obtain ⟨r5, hr5⟩ : ∃ y, p.getD y5 0 = y := ⟨_, rfl⟩
          obtain ⟨r6, hr6⟩ : ∃ y, p.getD y6 0 = y := ⟨_, rfl⟩
          rw [hr5] at l7 hv3
          rw [hr6] at l8 hv3
          have HY := hide (And.intro (And.intro hy5 hy6) (And.intro hr5 hr6))
          have z5 : (0 : Int) ≤ (y5 : Int) := e5.1
          have z6 : (0 : Int) ≤ (y6 : Int) := e6.1
          have t5 : (y5 : Int) < (n : Int) := e5.2
          have t6 : (y6 : Int) < (n : Int) := e6.2
          have j0 : (0 : Int) ≤ (j : Int) := by omega
          have j1 : (j : Int) < (ni : Int) := by omega
          clear hc5 hc6 e5 e6 hy5 hy6 hr5 hr6 l3 l4 l1 l2
          by_cases hrr : r5 = r6
          · have HA2 : Hid (∀ j', j' < j + 1 → p.getD (li.getD j' 0).toNat 0 = p.getD (lk.getD j' 0).toNat 0) := fun j' hj' => by
              rcases Nat.lt_succ_iff_lt_or_eq.1 hj' with h1 | rfl
              · exact HA.out j' h1
              · rw [HY.out.1.1, HY.out.1.2, Int.toNat_natCast, Int.toNat_natCast, HY.out.2.1, HY.out.2.2, hrr]
            subst hrr
            clear hv3
            go_wp2_with fail
            refine wp_region_onto (by kernel_rfl) (by kernel_rfl) ?_
            repeat (go_big_quiet_step (fail))
            refine wpQuiet_nil ?_
            rintro _ ⟨u1, rfl⟩
            have KO := hide (HK.out.then (onto_keeps wr u1))
            go_wp2_with fail
            go_roundw
            case rel => exact ⟨j + 1, by omega, by go_num, KO.out, HA2.out⟩
            case measure => simp [intOf]; omega
          · have HF := hide (hv3 hrr)
            have hr2 : (r5 != r6) = true := by simpa using hrr
            have hr3 : (r5 == r6) = false := by simpa using hrr
            clear hv3
            go_wp2_with fail
            refine wp_region_onto (by kernel_rfl) (by kernel_rfl) ?_
            repeat (go_big_quiet_step (fail))
            refine wpQuiet_nil ?_
            rintro _ ⟨u1, rfl⟩
            have KO := hide (HK.out.then (onto_keeps wr u1))
            go_wp2_with fail
            try rw [Exit.noGoto_ret]
            go_ret
            exact ⟨ret_bool HF.out.symm, KO.out⟩
        · obtain rfl : ni = j := by omega
          have HF := hide (HV4.out (by simp) (by simp) (fun j' h => HA.out j' h))
          have y9 : ¬ (ni : Int) < (ni : Int) := by omega
          clear l3 l4 l1 l2
          go_wp2_with fail
          try rw [Exit.noGoto_ret]
          go_ret
          exact ⟨ret_bool HF.out.symm, HK.out⟩
    · have HF := hide (v2 hnn)
      have e2 : ((ni : Int) != (nk : Int)) = true := by simp; omega
      have e3 : ((ni : Int) == (nk : Int)) = false := by simp; omega
      subst hxy
      clear v1 v2 hnn
      go_enter Try.func67, Try.ntmps67
      go_wp2_with fail
      refine wp_region_onto (by kernel_rfl) (by kernel_rfl) ?_
      repeat (go_big_quiet_step (fail))
      refine wpQuiet_nil ?_
      rintro _ ⟨u0, rfl⟩
      have KO := hide (onto_keeps w u0)
      go_wp2_with fail
      try rw [Exit.noGoto_ret]
      go_ret
      exact ⟨ret_bool HF.out.symm, KO.out⟩
  · have HF := hide (v1 hxy)
    have e2 : (x != y) = true := by simpa using hxy
    have e3 : (x == y) = false := by simpa using hxy
    clear v1 v2
    go_enter Try.func67, Try.ntmps67
    go_wp2_with fail
    refine wp_region_onto (by kernel_rfl) (by kernel_rfl) ?_
    repeat (go_big_quiet_step (fail))
    refine wpQuiet_nil ?_
    rintro _ ⟨u0, rfl⟩
    have KO := hide (onto_keeps w u0)
    go_wp2_with fail
    try rw [Exit.noGoto_ret]
    go_ret
    exact ⟨ret_bool HF.out.symm, KO.out⟩
end Go.Proofs.Ytkcbahfmdokalaa
