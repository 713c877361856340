/-
  Walks over layer 6's reference: Coarsest, Next. No condition.
-/
import Derived.Test.YtkcbahfmdokalaaRg
namespace Go.Proofs.Ytkcbahfmdokalaa
open Go.RowKit
attribute [local go_sem] onto_cell onto_frozen
set_option linter.unusedVariables false
/-- What the reference's Coarsest returns. -/
def CoRP (w : World) (n : Nat) (p : List Int) (next : List (List Int)) (e : Ending) (w' : World) : Prop := ∃ g d, e = .returned (.tuple #[.slice g n d, .int .i64 (coarseL p next).2]) ∧ Ints w' g n (coarseL p next).1 ∧ Keeps Non w w'
set_option maxRecDepth 100000 in
set_option maxHeartbeats 4000000 in
theorem coarsestR_l (a b : Option Addr) (n cap cap2 : Nat) (p : List Int) (next : List (List Int)) (w : World) (h : Ints w a n p) (h2 : Rows w b n next) (hp : Pt n p) (hl : NextOk n next) (hn : n ≤ 1024) :
    Calls Try.prog 49 #[.slice a n cap, .slice b n cap2] w (CoRP w n p next) := by
  have HX := hide h
  have HY := hide h2
  have HP := hide hp
  have HNx := hide hl
  clear h h2 hp hl
  go_enter Try.func49, Try.ntmps49
  go_wp2_with fail
  go_loopw [0, 6] (fun v c wr => ∃ (now : List Int) (k : Nat) (a1 : Option Addr) (c1 : Nat), v = .slice a1 n c1 ∧ c = .int .i64 k ∧ Hid (Ints wr a1 n now) ∧ Hid (Pt n now) ∧ k + cnt p ≤ cnt now ∧ cnt now ≤ n ∧ Hid (coarseL p next = coarseGo next (n + 1) now k) ∧ Hid (Keeps Non w wr)) (fun _ c _ => n - (intOf c).toNat)
  case atStart => exact ⟨p, 0, a, cap, rfl, rfl, HX.out, HP.out, by omega, by have := cnt_le_length p; rw [HP.out.len] at this; exact this, by show _ = _; rw [coarseL, HP.out.len], Keeps.refl _ _⟩
  case round =>
    obtain ⟨now, k, a1, c1, rfl, rfl, HI, HPn, hkc, hcn, HCo, HKr⟩ := hrel
    have hstep := coarse_now (p := p) (next := next) (by rw [HNx.out.1, HP.out.len]) now k (by rw [HPn.out.len, HP.out.len])
    rw [HP.out.len] at hstep
    have hmono := cnt_refine (p := now) (next := next) (by rw [HNx.out.1, HPn.out.len])
    have hle2 := cnt_le_length (refineL now next)
    have PA : Hid (Pt n (refineL now next)) := refine_pt HPn.out HNx.out.1
    rw [PA.out.len] at hle2
    have hend : refineL now next = now → coarseGo next (n + 1) now k = (now, k) := fun he => by
      unfold coarseGo
      rw [if_pos (by rw [he])]
    have hsc := stable_cnt HPn.out HNx.out.1
    by_cases heq : refineL now next = now
    · have HE := hide (hend heq)
      have HS := hide (stableR_l a1 b n c1 cap2 now next true wr HI.out (HY.out.non HKr.out) HPn.out HNx.out hn (decide_eq_true heq))
      clear hstep hend hmono hle2 hsc heq
      go_wp2_with fail
      refine HS.out.mono ?_
      rintro e w4 ⟨rfl, hk4⟩
      have HK4 := hide (HKr.out.then hk4)
      have HI4 := hide (HI.out.non hk4)
      clear hk4
      go_wp2_with fail
      refine bodyPost_ret (v := .tuple #[.slice a1 n c1, .int .i64 k]) (by simp [results, Try.results49, go_sem]) rfl ?_
      refine ⟨a1, c1, ?_, ?_, HK4.out⟩
      · rw [HCo.out, HE.out]
      · rw [HCo.out, HE.out]
        exact HI4.out
    · have hne : ¬ cnt (refineL now next) = cnt now := fun h => heq (hsc.1 h)
      have HE := hide (hstep hne)
      have hlt : cnt now < cnt (refineL now next) := by omega
      have HLt := hide (And.intro hlt hle2)
      have HS := hide (stableR_l a1 b n c1 cap2 now next false wr HI.out (HY.out.non HKr.out) HPn.out HNx.out hn (decide_eq_false heq))
      clear hstep hend hmono hle2 hsc heq hne hlt
      go_wp2_with fail
      refine HS.out.mono ?_
      rintro e w4 ⟨rfl, hk4⟩
      have HR := hide (refineR_l a1 b n c1 cap2 now next w4 (HI.out.non hk4) (HY.out.non (HKr.out.then hk4)) HPn.out HNx.out hn)
      have HK4 := hide (HKr.out.then hk4)
      clear hk4
      have k0 : (0 : Int) ≤ (k : Int) := by omega
      have k1 : (k : Int) ≤ 1024 := by omega
      go_wp2_with fail
      refine HR.out.mono ?_
      rintro e w5 ⟨_, rfl, a5, c5, rfl, hI, hk5⟩
      rw [PA.out.len] at hI ⊢
      have HI5 := hide hI
      have HK5 := hide (HK4.out.then hk5)
      clear hI hk5
      go_wp2_with fail
      go_roundw
      case rel => exact ⟨refineL now next, k + 1, a5, c5, rfl, by go_num, HI5.out, PA.out, by have := HLt.out; omega, HLt.out.2, by show _ = _; rw [HCo.out, HE.out], HK5.out⟩
      case measure =>
        have := HLt.out
        simp [intOf]
        omega
/-- What comes next is right, told by one. -/
def nextB (n : Nat) (next : List (List Int)) : Bool := decide (next.length = n) && !next.any (badL n)
theorem nextB_iff {n : Nat} {next : List (List Int)} : nextB n next = true ↔ NextOk n next := by
  unfold nextB NextOk
  simp only [Bool.and_eq_true, decide_eq_true_eq, Bool.not_eq_true', List.any_eq_false]
  constructor
  · rintro ⟨h1, h2⟩
    refine ⟨h1, fun l hl => ?_⟩
    have h3 := h2 l hl
    unfold badL at h3
    simp only [Bool.or_eq_true, decide_eq_true_eq, not_or, List.any_eq_true, not_exists, not_and] at h3
    refine ⟨by omega, fun x hx => ?_⟩
    have h4 := h3.2 x hx
    unfold badB at h4
    simp only [Bool.or_eq_true, decide_eq_true_eq, not_or] at h4
    omega
  · rintro ⟨h1, h2⟩
    refine ⟨h1, fun l hl => ?_⟩
    obtain ⟨h3, h4⟩ := h2 l hl
    unfold badL
    simp only [Bool.or_eq_true, decide_eq_true_eq, not_or, List.any_eq_true, not_exists, not_and]
    refine ⟨by omega, fun x hx => ?_⟩
    have := h4 x hx
    unfold badB
    simp only [Bool.or_eq_true, decide_eq_true_eq, not_or]
    omega
theorem nextB_no {n : Nat} {next : List (List Int)} (h : ¬ NextOk n next) : nextB n next = false := by
  cases hb : nextB n next with
  | false => rfl
  | true => exact absurd (nextB_iff.1 hb) h
set_option maxRecDepth 100000 in
set_option maxHeartbeats 4000000 in
theorem nextR_l (b : Option Addr) (n m cap2 : Nat) (next : List (List Int)) (v : Bool) (w : World) (h2 : Rows w b m next) (hn : n ≤ 1024) (hs : ∀ i, (next.getD i []).length ≤ 1000000) (hv : nextB n next = v) :
    Calls Try.prog 48 #[.int .i64 n, .slice b m cap2] w fun e w' => e = .returned (.bool v) ∧ w = w' := by
  have hm := h2.big
  have hml := h2.len
  have HV := hide hv
  have HS := hide hs
  by_cases hnm : m = n
  · subst hnm
    have HY := hide h2
    clear h2 hv hs
    go_enter Try.func48, Try.ntmps48
    go_wp2_with fail
    go_loop [5] (fun t => ∃ (i : Nat), i ≤ m ∧ t = .int .i64 i ∧ Hid (∀ j, j < i → (next.getD j []).length ≤ 64 ∧ ∀ x ∈ next.getD j [], 0 ≤ x ∧ x < m)) (fun t => m - (intOf t).toNat)
    case atStart => exact ⟨0, by omega, rfl, fun j h => by omega⟩
    case round =>
      obtain ⟨i, hi, rfl, HA⟩ := hrel
      by_cases hlt : i < m
      · obtain ⟨b2, o2, rfl, hb2, hc2⟩ := HY.out.at (by omega)
        obtain ⟨ai, ci, l3, hI⟩ := hc2 i hlt
        have hsz := HS.out i
        have hno : ∀ x, x ∈ next.getD i [] → ¬ (0 ≤ x ∧ x < m) → nextB m next = false := fun x hx hb => nextB_no fun hk => hb ((hk.2 _ (getD_mem (d := []) (by rw [hk.1]; exact hlt))).2 x hx)
        have hno2 : ¬ (next.getD i []).length ≤ 64 → nextB m next = false := fun hb => nextB_no fun hk => hb ((hk.2 _ (getD_mem (d := []) (by rw [hk.1]; exact hlt))).1)
        rw [HV.out] at hno hno2
        obtain ⟨l, hl⟩ : ∃ l, next.getD i [] = l := ⟨_, rfl⟩
        have HLe := hide hl
        rw [hl] at l3 hI hsz hno hno2
        obtain ⟨ll, hll⟩ : ∃ q, l.length = q := ⟨_, rfl⟩
        have HLL := hide hll
        rw [hll] at l3 hI hsz hno2
        have HI := hide hI
        have HNo := hide hno
        have i0 : (0 : Int) ≤ (i : Int) := by omega
        have i1 : (i : Int) < (m : Int) := by omega
        clear hc2 hI hl hll hno
        by_cases h64 : 64 < ll
        · have HF := hide (hno2 (by omega))
          have e1 : (64 : Int) < (ll : Int) := by omega
          clear hno2
          go_wp2_with fail
          try rw [Exit.noGoto_ret]
          go_ret
          exact ⟨ret_bool HF.out.symm, rfl⟩
        · have e1 : ¬ (64 : Int) < (ll : Int) := by omega
          clear hno2
          go_wp2_with fail
          go_loop [6] (fun t => ∃ (k : Nat), k ≤ ll ∧ t = .int .i64 k ∧ Hid (∀ j, j < k → 0 ≤ l.getD j 0 ∧ l.getD j 0 < m)) (fun t => ll - (intOf t).toNat)
          case atStart => exact ⟨0, by omega, rfl, fun j h => by omega⟩
          case round =>
            obtain ⟨k, hk, rfl, HB⟩ := hrel
            by_cases hkl : k < ll
            · obtain ⟨b5, o5, rfl, hb5, hc5⟩ := HI.out.at (by omega)
              have l5 := hc5 k hkl
              have hn1 := HNo.out (l.getD k 0) (getD_mem (by rw [HLL.out]; exact hkl))
              obtain ⟨x, hx⟩ : ∃ x, l.getD k 0 = x := ⟨_, rfl⟩
              have HXx := hide hx
              rw [hx] at l5 hn1
              have k0 : (0 : Int) ≤ (k : Int) := by omega
              have k1 : (k : Int) < (ll : Int) := by omega
              clear hc5 hx
              by_cases hx0 : x < 0
              · have HF := hide (hn1 (by omega))
                clear hn1
                go_wp2_with fail
                try rw [Exit.noGoto_ret]
                go_ret
                exact ⟨ret_bool HF.out.symm, rfl⟩
              · have d0 : decide (x < 0) = false := by simpa using hx0
                by_cases hx1 : (m : Int) ≤ x
                · have HF := hide (hn1 (by omega))
                  clear hn1
                  go_wp2_with fail
                  try rw [Exit.noGoto_ret]
                  go_ret
                  exact ⟨ret_bool HF.out.symm, rfl⟩
                · have HB2 : Hid (∀ j, j < k + 1 → 0 ≤ l.getD j 0 ∧ l.getD j 0 < m) := fun j hj => by
                    rcases Nat.lt_succ_iff_lt_or_eq.1 hj with h1 | rfl
                    · exact HB.out j h1
                    · rw [HXx.out]; omega
                  clear hn1
                  go_wp2_with fail
                  go_round
                  case rel => exact ⟨k + 1, by omega, by go_num, HB2.out⟩
                  case measure => simp [intOf]; omega
            · obtain rfl : ll = k := by omega
              have y9 : ¬ (ll : Int) < (ll : Int) := by omega
              go_wp2_with fail
              go_round
              case rel => exact ⟨i + 1, by omega, by go_num, fun j hj => by
                rcases Nat.lt_succ_iff_lt_or_eq.1 hj with h1 | rfl
                · exact HA.out j h1
                · rw [HLe.out]
                  refine ⟨by rw [HLL.out]; omega, fun x hx => ?_⟩
                  obtain ⟨t, ht, rfl⟩ := List.mem_iff_getElem.1 hx
                  have := HB.out t (by rw [← HLL.out]; exact ht)
                  rwa [getD_num ht] at this⟩
              case measure => simp [intOf]; omega
      · obtain rfl : m = i := by omega
        have y9 : ¬ (m : Int) < (m : Int) := by omega
        have HF : Hid (v = true) := by
          show _ = _
          rw [← HV.out, nextB_iff]
          refine ⟨hml, fun l hl => ?_⟩
          obtain ⟨t, ht, rfl⟩ := List.mem_iff_getElem.1 hl
          have := HA.out t (by omega)
          rwa [getD_numL ht] at this
        go_wp2_with fail
        try rw [Exit.noGoto_ret]
        go_ret
        exact ⟨ret_bool HF.out.symm, rfl⟩
  · have HF : Hid (v = false) := by
      show _ = _
      rw [← hv]
      exact nextB_no fun hk => hnm (by rw [← hml]; exact hk.1)
    have e1 : ((m : Int) != (n : Int)) = true := by simp; omega
    clear h2 hv hs hnm
    go_enter Try.func48, Try.ntmps48
    go_wp2_with fail
    go_ret
    exact ⟨ret_bool HF.out.symm, rfl⟩
end Go.Proofs.Ytkcbahfmdokalaa
