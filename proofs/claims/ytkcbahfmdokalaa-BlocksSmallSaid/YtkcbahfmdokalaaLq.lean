/-
  The walk over BlocksQuotient. No condition beyond the row's own.
-/
import Derived.Test.YtkcbahfmdokalaaLr
import Derived.Test.YtkcbahfmdokalaaR
namespace Go.Proofs.Ytkcbahfmdokalaa
open Go.RowKit
attribute [local go_sem] onto_cell onto_frozen
set_option linter.unusedVariables false
theorem made_c (a : Option Addr) (n cap m : Nat) (xs : List Int) (w : World) (h : BySl w a n cap xs) (hm : min 30 n = m) :
    Calls Try.prog 25 #[.slice a n cap] w fun e w' => ∃ a1 c1, e = .returned (.slice a1 m c1) ∧ Ints w' a1 m (madeL xs) ∧ Keeps Non w w' := by
  refine (made_l a n cap xs w h.by' h.room h.nil).mono ?_
  rintro e w2 ⟨v, rfl, a1, c1, rfl, hI, hk⟩
  have hl : (madeL xs).length = m := by rw [madeL_length, h.by'.len, hm]
  rw [hl] at hI ⊢
  exact ⟨a1, c1, rfl, hI, hk⟩
theorem pt_madeL {m : Nat} {xs : List Int} (h : min 30 xs.length = m) : Pt m (madeL xs) := ⟨by rw [madeL_length, h], madeL_isP _⟩
/-- Quotient's answer, whether it is stable or not. -/
def QuoP (w : World) (v : Bool) (e : Ending) (w' : World) : Prop := ∃ (u : Value) (k : Int), e = .returned (.tuple #[u, .int .i64 k]) ∧ (v = true → k = 0) ∧ (v = false → k = 62) ∧ Keeps Non w w'
theorem quotient_any {n : Nat} {p : List Int} {next : List (List Int)} {w : World} {a b : Option Addr} {cap cap2 : Nat} (h : Ints w a n p) (h2 : Rows w b n next) (hp : Pt n p) (hl : NextOk n next) (hn : n ≤ 1024) (v : Bool) (hv : decide (refineL p next = p) = v) :
    Calls Try.prog 28 #[.slice a n cap, .slice b n cap2] w (QuoP w v) := by
  by_cases hs : refineL p next = p
  · rw [decide_eq_true hs] at hv
    subst hv
    exact (quotient_c h h2 hp hl hn hs _ rfl).mono fun e w' ⟨g, h1, _, h4⟩ => ⟨_, _, h1, fun _ => rfl, (fun h => by cases h), h4⟩
  · rw [decide_eq_false hs] at hv
    subst hv
    exact (quotient_split a b n cap n cap2 p next w h h2 (pt_good hp hn) (pt_wrongE hp hl hn) hs).mono fun e w' ⟨h1, h4⟩ => ⟨_, _, h1, (fun h => by cases h), fun _ => rfl, h4⟩
theorem quot_len {n : Nat} {p : List Int} {next : List (List Int)} (hp : Pt n p) (hl : next.length = n) (hs : refineL p next = p) {i : Nat} (hi : i < n) : ((quotL p next).getD (p.getD i 0).toNat []).length = (next.getD i []).length := by
  rw [quot_row hp hl hs hi, rowOf_length]
theorem quot_at {n : Nat} {p : List Int} {next : List (List Int)} (hp : Pt n p) (hl : next.length = n) (hs : refineL p next = p) {i : Nat} (hi : i < n) {k : Nat} (hk : k < (next.getD i []).length) : ((quotL p next).getD (p.getD i 0).toNat []).getD k 0 = p.getD ((next.getD i []).getD k 0).toNat 0 := by
  rw [quot_row hp hl hs hi, rowOf, List.getD_eq_getElem?_getD, List.getElem?_map, List.getElem?_eq_getElem hk, getD_num hk]
  rfl
set_option maxRecDepth 100000 in
set_option maxHeartbeats 16000000 in
theorem law_quotient (a b : Option Addr) (n1 d1 n2 d2 : Nat) (xs zs : List Int) (w : World) (h1 : BySl w a n1 d1 xs) (h2 : BySl w b n2 d2 zs) :
    Calls Try.prog 5 #[.slice a n1 d1, .slice b n2 d2] w fun e w' => e = .returned (.bool true) ∧ Keeps Non w w' := by
  obtain ⟨m, hm⟩ : ∃ m, min 30 n1 = m := ⟨_, rfl⟩
  have HT := hide (made_c a n1 d1 m xs w h1 hm)
  have P1 : Hid (Pt m (madeL xs)) := pt_madeL (by rw [h1.by'.len]; exact hm)
  have HNx := hide (followsL_ok m zs (by omega) (fun i => (h2.by'.bd i).1))
  have hm30 : m ≤ 1000 := by omega
  have hm31 : m ≤ 1024 := by omega
  have hbig := h2.by'.big
  have HB := hide h2.by'
  clear h1 h2 hm
  go_enter Try.func5, Try.ntmps5
  go_wp2_with fail
  refine HT.out.mono ?_
  rintro e x0 ⟨a1, c1, rfl, i1, k0⟩
  obtain ⟨p, hp⟩ : ∃ p, madeL xs = p := ⟨_, rfl⟩
  obtain ⟨nx, hnx⟩ : ∃ p, followsL m zs = p := ⟨_, rfl⟩
  have HX := hide hnx
  rw [hp] at i1 P1
  rw [hnx] at HNx
  replace HB := hide (HB.out.non k0)
  have Ip := hide i1
  have HK := hide k0
  clear HT hp i1 k0 hnx
  obtain ⟨c, hc⟩ : ∃ c, (coarseL p nx).1 = c := ⟨_, rfl⟩
  obtain ⟨k, hk⟩ : ∃ k, (coarseL p nx).2 = k := ⟨_, rfl⟩
  have HC : Hid (coarseL p nx = (c, k)) := by
    show _ = _
    rw [← hc, ← hk]
  have HO := hide (coarseL_ok P1.out HNx.out)
  rw [hc, hk] at HO
  have PC : Hid (Pt m c) := HO.out.pt
  obtain ⟨kq, hkq⟩ : ∃ kq, cnt c = kq := ⟨_, rfl⟩
  have HKq := hide hkq
  obtain ⟨v, hv⟩ : ∃ v, decide (refineL p nx = p) = v := ⟨_, rfl⟩
  have HV := hide hv
  clear hc hk hkq hv
  have C1 := hide (follows_c m b n2 d2 zs x0 HB.out hm30)
  go_wp2_with fail
  refine C1.out.mono ?_
  rintro e x1 ⟨g1, rfl, hI, hk1⟩
  replace Ip := hide (Ip.out.non hk1)
  replace HB := hide (HB.out.non hk1)
  replace HK := hide (HK.out.then hk1)
  rw [HX.out] at hI
  have Rn := hide hI
  clear hk1 C1 hI
  clear HB
  have C2 := hide (coarsest_c (cap := c1) (cap2 := m) Ip.out Rn.out P1.out HNx.out hm31 c k HC.out)
  go_wp2_with fail
  refine C2.out.mono ?_
  rintro e x2 ⟨g2, d2, rfl, hI, hk2⟩
  replace Ip := hide (Ip.out.non hk2)
  replace Rn := hide (Rn.out.non hk2)
  have Ic := hide hI
  replace HK := hide (HK.out.then hk2)
  clear hk2 C2 hI
  have C3 := hide (quotient_c (cap := d2) (cap2 := m) Ic.out Rn.out PC.out HNx.out hm31 HO.out.stable kq HKq.out)
  go_wp2_with fail
  refine C3.out.mono ?_
  rintro e x3 ⟨g3, rfl, hR, hk3⟩
  replace Ip := hide (Ip.out.non hk3)
  replace Rn := hide (Rn.out.non hk3)
  replace Ic := hide (Ic.out.non hk3)
  have Rq := hide hR
  replace HK := hide (HK.out.then hk3)
  clear hk3 C3 hR
  have C4 := hide (stable_c (cap := c1) (cap2 := m) Ip.out Rn.out P1.out HNx.out hm31 v HV.out)
  go_wp2_with fail
  refine C4.out.mono ?_
  rintro e x4 ⟨rfl, hk4⟩
  replace Ip := hide (Ip.out.non hk4)
  replace Rn := hide (Rn.out.non hk4)
  replace Ic := hide (Ic.out.non hk4)
  replace Rq := hide (Rq.out.non hk4)
  replace HK := hide (HK.out.then hk4)
  clear hk4 C4
  have C5 := hide (quotient_any (cap := c1) (cap2 := m) Ip.out Rn.out P1.out HNx.out hm31 v HV.out)
  go_wp2_with fail
  refine C5.out.mono ?_
  rintro e x5 ⟨u, ke, rfl, ke1, ke2, hk5⟩
  replace Ip := hide (Ip.out.non hk5)
  replace Rn := hide (Rn.out.non hk5)
  replace Ic := hide (Ic.out.non hk5)
  replace Rq := hide (Rq.out.non hk5)
  replace HK := hide (HK.out.then hk5)
  clear hk5 C5
  have HKx := hide (Keeps.refl Non x5)
  cases v
  all_goals
    first | (obtain rfl := ke1 rfl) | (obtain rfl := ke2 rfl)
    clear ke1 ke2
    go_wp2_with fail
    go_loopw [80] (fun t wr => ∃ (i : Nat), i ≤ m ∧ t = .int .i64 i ∧ Hid (Keeps Non x5 wr)) (fun t _ => m - (intOf t).toNat)
    case atStart => exact ⟨0, by omega, rfl, HKx.out⟩
    case round =>
      obtain ⟨i, hi, rfl, HKr⟩ := hrel
      by_cases hlt : i < m
      · obtain ⟨b2, o2, hb2e, hb2, hc2⟩ := (Rn.out.non HKr.out).at (by omega)
        cases hb2e
        obtain ⟨ai, ci, l2, hI⟩ := hc2 i hlt
        obtain ⟨b3, o3, rfl, hb3, hc3⟩ := (Ic.out.non HKr.out).at (by omega)
        have l3 := hc3 i hlt
        have bz := pt_bound PC.out hlt
        have hql := quot_len PC.out HNx.out.1 HO.out.stable hlt
        have hqa := fun k hk => quot_at PC.out HNx.out.1 HO.out.stable hlt (k := k) hk
        have hlm := (HNx.out.2 (nx.getD i []) (getD_mem (by rw [HNx.out.1]; exact hlt)))
        obtain ⟨l, hl⟩ : ∃ l, nx.getD i [] = l := ⟨_, rfl⟩
        obtain ⟨x, hx⟩ : ∃ x, c.getD i 0 = x := ⟨_, rfl⟩
        rw [hl] at l2 hI hql hlm
        rw [hx] at l3 bz hql
        simp only [hx, hl] at hqa
        obtain ⟨z, rfl⟩ : ∃ z : Nat, x = z := ⟨x.toNat, by omega⟩
        rw [Int.toNat_natCast] at hql
        simp only [Int.toNat_natCast] at hqa
        have hzk : z < kq := by rw [← HKq.out]; omega
        obtain ⟨b4, o4, hb4e, hb4, hc4⟩ := (Rq.out.non HKr.out).at (by omega)
        cases hb4e
        obtain ⟨aq, cq, l4, hIq⟩ := hc4 z hzk
        rw [Nat.zero_add] at l2 l4
        obtain ⟨qr, hqr⟩ : ∃ l, (quotL c nx).getD z [] = l := ⟨_, rfl⟩
        rw [hqr] at l4 hIq hql
        simp only [hqr] at hqa
        rw [hql] at l4 hIq
        obtain ⟨ll, hll⟩ : ∃ ll, l.length = ll := ⟨_, rfl⟩
        rw [hll] at l2 hI l4 hIq
        have hl64 : ll ≤ 64 := by rw [← hll]; exact hlm.1
        have HI := hide hI
        have HIq := hide hIq
        have HA : Hid (∀ k, k < ll → 0 ≤ l.getD k 0 ∧ l.getD k 0 < m ∧ qr.getD k 0 = c.getD (l.getD k 0).toNat 0) := fun k hk => by
          have h1 := hlm.2 (l.getD k 0) (getD_mem (by rw [hll]; exact hk))
          exact ⟨h1.1, h1.2, hqa k (by rw [hll]; exact hk)⟩
        have HC3 := hide hc3
        have z0 : (0 : Int) ≤ (z : Int) := by omega
        have z1 : (z : Int) < (kq : Int) := by omega
        have z2 : decide ((kq : Int) ≤ (z : Int)) = false := by simp; omega
        have i0 : (0 : Int) ≤ (i : Int) := by omega
        have i1 : (i : Int) < (m : Int) := by omega
        clear hc2 hc3 hc4 bz hql hqa hlm hl hx hqr hll hI hIq
        obtain ⟨w0, hw0⟩ : ∃ w0, wr = w0 := ⟨_, rfl⟩
        have HW0 := hide hw0
        clear hw0
        go_wp2_with fail
        go_loopw [114] (fun t wi => ∃ (k : Nat), k ≤ ll ∧ t = .int .i64 k ∧ Hid (Keeps Non w0 wi)) (fun t _ => ll - (intOf t).toNat)
        case atStart => exact ⟨0, by omega, rfl, by show Keeps Non _ _; rw [HW0.out]; exact Keeps.refl _ _⟩
        case round =>
          rw [HW0.out] at l2 l3 l4 hb2 hb3 hb4 HI HIq HC3 HKr
          obtain ⟨k2, hk2, rfl, HKi⟩ := hrel
          have n3 := (HKi.out.cell (p := ⟨b3, o3 + i, none⟩) hb3 (fun x => x)).trans l3
          have n4 := (HKi.out.cell (p := ⟨g3, z, none⟩) hb4 (fun x => x)).trans l4
          have m3 := Nat.lt_of_lt_of_le hb3 HKi.out.size
          have m4 := Nat.lt_of_lt_of_le hb4 HKi.out.size
          by_cases hlt2 : k2 < ll
          · obtain ⟨b5, o5, rfl, hb5, hc5⟩ := (HI.out.non HKi.out).at (by omega)
            obtain ⟨b6, o6, rfl, hb6, hc6⟩ := (HIq.out.non HKi.out).at (by omega)
            have l5 := hc5 k2 hlt2
            have l6 := hc6 k2 hlt2
            obtain ⟨q1, q2, q3⟩ := HA.out k2 hlt2
            obtain ⟨y, hy⟩ : ∃ y, l.getD k2 0 = y := ⟨_, rfl⟩
            rw [hy] at l5 q1 q2 q3
            obtain ⟨y, rfl⟩ : ∃ y' : Nat, y = y' := ⟨y.toNat, by omega⟩
            rw [Int.toNat_natCast] at q3
            have l7 := (HKi.out.cell (p := ⟨b3, o3 + y, none⟩) hb3 (fun x => x)).trans (HC3.out y (by omega))
            rw [q3] at l6
            obtain ⟨r, hr⟩ : ∃ r, c.getD y 0 = r := ⟨_, rfl⟩
            rw [hr] at l6 l7
            have y0 : (0 : Int) ≤ (y : Int) := by omega
            have y1 : (y : Int) < (m : Int) := by omega
            have e0 : (0 : Int) ≤ (k2 : Int) := by omega
            have e1 : (k2 : Int) < (ll : Int) := by omega
            clear hc5 hc6 hy hr q3 q1 q2 l2 l3 l4
            go_wp2_with fail
            go_region
            all_goals
              go_wp2_with fail
              go_roundw
              case rel => exact ⟨k2 + 1, by omega, by go_num, HKi.out.drew⟩
              case measure => simp [intOf]; omega
          · obtain rfl : ll = k2 := by omega
            have y9 : ¬ (ll : Int) < (ll : Int) := by omega
            clear l2 l3 l4
            go_wp2_with fail
            go_roundw
            case rel => exact ⟨i + 1, by omega, by go_num, HKr.out.then HKi.out⟩
            case measure => simp [intOf]; omega
      · obtain rfl : m = i := by omega
        have y9 : ¬ (m : Int) < (m : Int) := by omega
        have HA := hide (awake_l wr)
        go_wp2_with fail
        refine HA.out.mono ?_
        rintro e w9 ⟨rfl, hk9⟩
        go_wp2_with fail
        go_ret
        exact ⟨rfl, (HK.out.then HKr.out).then hk9⟩
end Go.Proofs.Ytkcbahfmdokalaa
