/-
  ReachOnly: the walk. No condition.
-/
import Derived.Test.YthpdflpkkiabhaaPy
import Derived.Test.YthpdflpkkiabhaaVs
import Derived.Test.YthpdflpkkiabhaaIs
namespace Go.Proofs.Ythpdflpkkiabhaa
open Go.RowKit
attribute [local go_sem] onto_cell onto_frozen
set_option linter.unusedVariables false
theorem w_from (a : Option Addr) (n cap : Nat) (next : List (List Int)) (st : Int) (A : List Int) (L : Nat) (w : World) (h : Rows w a n next) (hc : checkB next = true) (hs : 0 ≤ st ∧ st < n) (hA : fromL next n st = A) (hL : A.length = L) (hb : L ≤ 100000) :
    Calls Try.prog 27 #[.slice a n cap, .int .i64 st] w fun e w' => ∃ a' c', e = .returned (.tuple #[.slice a' L c', .int .i64 0]) ∧ Ints w' a' L A ∧ Keeps Non w w' :=
  (from_yes a n cap next st w h hc hs).mono fun e w' ⟨v, he, hO⟩ => by
    rw [hA] at hO
    obtain ⟨a9, c9, rfl, hI⟩ := ints_of_owns hO.1 (by omega)
    rw [hL] at hI he
    exact ⟨a9, c9, he, hI, hO.2⟩
theorem w_ways (a : Option Addr) (n cap : Nat) (next : List (List Int)) (st : Int) (W : List Int) (w : World) (h : Rows w a n next) (hc : checkB next = true) (hs : 0 ≤ st ∧ st < n) (hW : waysL next n st = W) :
    Calls Try.prog 15 #[.slice a n cap, .int .i64 st] w fun e w' => ∃ b, e = .returned (.tuple #[.slice (some ⟨b, 0, none⟩) n n, .int .i64 0]) ∧ Ints w' (some ⟨b, 0, none⟩) n W ∧ Keeps Non w w' := by
  have hl : (waysL next n st).length = n := goW_length _ _
  have hb := h.big
  refine (ways_yes a n cap next st w h hc hs).mono fun e w' ⟨v, he, b, hv, _, hB, hk⟩ => ?_
  subst hv
  rw [hW] at hl hB he
  have hI := ints_of_blk hB (by omega)
  rw [hl] at hI he
  exact ⟨b, he, hI, hk⟩
theorem w_only (a : Option Addr) (n cap : Nat) (next : List (List Int)) (b : Option Addr) (m cap2 : Nat) (l : List Int) (Ls : List (List Int)) (w : World) (h : Rows w a n next) (h2 : Ints w b m l) (hc : checkB next = true) (hl : ∀ x ∈ l, 0 ≤ x ∧ x < (n : Int)) (hm : m ≤ 100000) (h0 : onlyE next l = 0) (hLs : onlyL next l = Ls) (hsh : ∀ i, (Ls.getD i []).length ≤ 100000) :
    Calls Try.prog 37 #[.slice a n cap, .slice b m cap2] w fun e w' => ∃ g, e = .returned (.tuple #[.slice (some ⟨g, 0, none⟩) m m, .int .i64 0]) ∧ Rows w' (some ⟨g, 0, none⟩) m Ls ∧ Keeps Non w w' := by
  refine (only_l a n cap next b m cap2 l w h h2 hc hl hm).mono fun e w' ⟨v, he, hy, _⟩ => ?_
  obtain ⟨B, S, hv, _, hR, hk⟩ := hy h0
  have hlen : Ls.length = m := by rw [← hLs, onlyL_length, h2.len]
  subst hv
  rw [hLs] at he hR
  have hRr := hR.rows (by omega) (fun i => by have := hsh i; omega)
  rw [h0, hlen] at he
  rw [hlen] at hRr
  exact ⟨B, he, hRr, hk⟩
theorem w_only_no (a : Option Addr) (n cap : Nat) (next : List (List Int)) (b : Option Addr) (m cap2 : Nat) (l : List Int) (x : Int) (w : World) (h : Rows w a n next) (h2 : Ints w b m l) (hc : checkB next = true) (hl : ∀ x ∈ l, 0 ≤ x ∧ x < (n : Int)) (hm : m ≤ 100000) (h0 : onlyE next l = x) (hx : x ≠ 0) :
    Calls Try.prog 37 #[.slice a n cap, .slice b m cap2] w fun e w' => e = .returned (.tuple #[.slice none 0 0, .int .i64 x]) ∧ Keeps Non w w' := by
  refine (only_l a n cap next b m cap2 l w h h2 hc hl hm).mono fun e w' ⟨v, he, _, hn⟩ => ?_
  obtain ⟨hv, hk⟩ := hn (by rw [h0]; exact hx)
  subst hv
  rw [h0] at he
  exact ⟨he, hk⟩
theorem w_made (nn : Int) (a : Option Addr) (m cap : Nat) (zs : List Int) (w : World) (h : Byts w a m zs) (hnn : 0 ≤ nn ∧ nn ≤ 255) :
    Calls Try.prog 13 #[.int .u8 nn, .slice a m cap] w fun e w' => ∃ B, e = .returned (.slice (some ⟨B, 0, none⟩) (madeN nn) (madeN nn)) ∧ Rows w' (some ⟨B, 0, none⟩) (madeN nn) (madeE nn zs) ∧ Keeps Non w w' := by
  refine (made_l nn a m cap zs w h hnn).mono fun e w' ⟨v, he, B, S, hv, _, hR, hk⟩ => ?_
  subst hv
  have hl := madeE_length nn zs
  have hb := madeN_bd nn
  have hRr := hR.rows (by omega) (fun i => by have := madeE_sh nn zs i; omega)
  rw [hl] at hRr he
  exact ⟨B, he, hRr, hk⟩
theorem upTo_take {N k : Nat} (h : k < N) : (upTo N).take (k + 1) = (upTo N).take k ++ [(k : Int)] := by
  rw [List.take_succ_eq_append_getElem (by rw [upTo_length]; exact h)]
  have := upTo_at h
  rw [getD_num (by rw [upTo_length]; exact h)] at this
  rw [this]
set_option maxRecDepth 100000 in
set_option maxHeartbeats 8000000 in
theorem law_only (nn : Int) (a : Option Addr) (m cap : Nat) (zs : List Int) (st : Int) (w : World) (h : Byts w a m zs) (hnn : 0 ≤ nn ∧ nn ≤ 255) (hst : 0 ≤ st ∧ st ≤ 255) :
    Calls Try.prog 11 #[.int .u8 nn, .slice a m cap, .int .u8 st] w fun e w' => e = .returned (.bool true) ∧ Keeps Non w w' := by
  obtain ⟨i0, hi, hz0, hz1, hz2⟩ := info3_parts
  have HMa := hide (w_made nn a m cap zs w h hnn)
  have hNb := madeN_bd nn
  obtain ⟨next, hnx⟩ : ∃ next, madeE nn zs = next := ⟨_, rfl⟩
  have HC := hide (madeE_check nn zs)
  have HSh := hide (madeE_sh nn zs)
  have hnl := madeE_length nn zs
  obtain ⟨N, hN⟩ : ∃ N, madeN nn = N := ⟨_, rfl⟩
  rw [hnx, hN] at hnl
  rw [hnx] at HMa HC HSh
  rw [hN] at hNb HMa
  have HNl := hide hnl
  obtain ⟨s, hs⟩ : ∃ s : Nat, st % (N : Int) = (s : Int) := ⟨(st % (N : Int)).toNat, by have := Int.emod_nonneg st (b := (N : Int)) (by omega); omega⟩
  have hsN : s < N := by have := Int.emod_lt_of_pos st (b := (N : Int)) (by omega); omega
  have hfm := fromL_mem (s := (s : Int)) HC.out (by rw [hnl]; omega)
  have hfi := (finds (s := (s : Int)) HC.out (by rw [hnl]; omega)).first
  have hfl := few_pts next.length _ (fromL_nodup (s := (s : Int)) HC.out (by rw [hnl]; omega)) hfm
  obtain ⟨A, hA⟩ : ∃ A, fromL next next.length s = A := ⟨_, rfl⟩
  rw [hA] at hfm hfl hfi
  obtain ⟨L, hL⟩ : ∃ L, A.length = L := ⟨_, rfl⟩
  have HQ := only_plain (s := (s : Int)) HC.out (by rw [hnl]; omega) hA hL
  rw [hnl] at HQ hA hfm hfl
  rw [hL] at hfl hfi
  have hL0 := hfi.1
  obtain ⟨Ls, hLs⟩ : ∃ Ls, onlyL next A = Ls := ⟨_, rfl⟩
  have hLl := onlyL_length next A
  rw [hLs, hL] at hLl
  rw [hLs] at HQ
  have hsh2 : ∀ i, (Ls.getD i []).length ≤ 60 := fun i => by
    by_cases hi : i < L
    · rw [HQ.len i hi]
      exact HSh.out _
    · rw [List.getD_eq_getElem?_getD, List.getElem?_eq_none (by omega)]
      simp
  obtain ⟨W1, hW1⟩ : ∃ W, waysL next N s = W := ⟨_, rfl⟩
  obtain ⟨W2, hW2⟩ : ∃ W, waysL Ls L 0 = W := ⟨_, rfl⟩
  have hshort := HQ.short
  rw [hW1, hW2] at hshort
  have HQh := hide HQ
  have HSo := hide hshort
  have HFm := hide hfm
  have HA := hide hA
  have HL := hide hL
  have HLs := hide hLs
  have HLl := hide hLl
  have HS2 := hide hsh2
  have HW1 := hide hW1
  have HW2 := hide hW2
  obtain ⟨U, hU⟩ : ∃ U, upTo L = U := ⟨_, rfl⟩
  have HAg : Hid (fromL Ls L 0 = U) := HQ.again.trans hU
  have HUl : Hid (U.length = L) := by show _ = _; rw [← hU, upTo_length]
  have HUr : Hid (∀ j, j + 1 < L → U.getD j 0 ≤ U.getD (j + 1) 0) := fun j hj => by
    rw [← hU, upTo_at (by omega), upTo_at (by omega)]
    omega
  have r1 : st.tmod (N : Int) = (s : Int) := by rw [Int.tmod_eq_emod_of_nonneg (by omega), hs]
  have r2 : IntKind.i64.wrap st = st := IntWalk.i64_in _ (by omega)
  have r3 : ¬ N = 0 := by omega
  have r4 : ¬ (N : Int) = 0 := by omega
  clear h hnx hN hnl hs hfm hfi hA hL HQ hLs hLl hsh2 hW1 hW2 hshort hU
  go_enter Try.func11, Try.ntmps11
  go_wp2_with fail
  refine HMa.out.mono ?_
  rintro e x1 ⟨B, rfl, hR, hk⟩
  have HR := hide hR
  have HK := hide hk
  clear hR hk HMa
  have C1 := hide (w_from (some ⟨B, 0, none⟩) N N next s A L x1 HR.out HC.out (by omega) HA.out HL.out (by omega))
  go_wp2_with fail
  refine C1.out.mono ?_
  rintro e x2 ⟨aa, ca, rfl, hI, hk⟩
  replace HR := hide (HR.out.non hk)
  replace HK := hide (HK.out.then hk)
  have HIA := hide hI
  clear hk C1 hI
  have C1 := hide (w_only (some ⟨B, 0, none⟩) N N next aa L ca A Ls x2 HR.out HIA.out HC.out HFm.out (by omega) HQh.out.e0 HLs.out (fun i => by have := HS2.out i; omega))
  go_wp2_with fail
  refine C1.out.mono ?_
  rintro e x3 ⟨bl, rfl, hI, hk⟩
  replace HR := hide (HR.out.non hk)
  replace HIA := hide (HIA.out.non hk)
  replace HK := hide (HK.out.then hk)
  have HRL := hide hI
  clear hk C1 hI
  have C1 := hide (w_ways (some ⟨B, 0, none⟩) N N next s W1 x3 HR.out HC.out (by omega) HW1.out)
  go_wp2_with fail
  refine C1.out.mono ?_
  rintro e x4 ⟨b1, rfl, hI, hk⟩
  replace HR := hide (HR.out.non hk)
  replace HIA := hide (HIA.out.non hk)
  replace HRL := hide (HRL.out.non hk)
  replace HK := hide (HK.out.then hk)
  have HI1 := hide hI
  clear hk C1 hI
  have C1 := hide (w_ways (some ⟨bl, 0, none⟩) L L Ls 0 W2 x4 HRL.out HQh.out.check (by omega) HW2.out)
  go_wp2_with fail
  refine C1.out.mono ?_
  rintro e x5 ⟨b2, rfl, hI, hk⟩
  replace HR := hide (HR.out.non hk)
  replace HIA := hide (HIA.out.non hk)
  replace HRL := hide (HRL.out.non hk)
  replace HI1 := hide (HI1.out.non hk)
  replace HK := hide (HK.out.then hk)
  have HI2 := hide hI
  clear hk C1 hI
  have C1 := hide (w_from (some ⟨bl, 0, none⟩) L L Ls 0 U L x5 HRL.out HQh.out.check (by omega) HAg.out HUl.out (by omega))
  go_wp2_with fail
  refine C1.out.mono ?_
  rintro e x6 ⟨ag, cg, rfl, hI, hk⟩
  replace HR := hide (HR.out.non hk)
  replace HIA := hide (HIA.out.non hk)
  replace HRL := hide (HRL.out.non hk)
  replace HI1 := hide (HI1.out.non hk)
  replace HI2 := hide (HI2.out.non hk)
  replace HK := hide (HK.out.then hk)
  have HIG := hide hI
  clear hk C1 hI
  have C1 := hide (isSorted_l ag L cg U x6 HIG.out HUr.out)
  go_wp2_with fail
  refine C1.out.mono ?_
  rintro e x7 ⟨rfl, hk⟩
  replace HR := hide (HR.out.non hk)
  replace HIA := hide (HIA.out.non hk)
  replace HRL := hide (HRL.out.non hk)
  replace HI1 := hide (HI1.out.non hk)
  replace HI2 := hide (HI2.out.non hk)
  replace HIG := hide (HIG.out.non hk)
  replace HK := hide (HK.out.then hk)
  clear hk C1 
  go_wp2_with fail
  go_loopw [114] (fun t wr => ∃ k : Nat, k ≤ L ∧ t = .int .i64 k ∧ Hid (Keeps Non x7 wr)) (fun t _ => L - (intOf t).toNat)
  case atStart => exact ⟨0, by omega, rfl, Keeps.refl _ _⟩
  case round =>
    obtain ⟨k, hk, rfl, HKr⟩ := hrel
    by_cases hlt : k < L
    · obtain ⟨b9, o9, ha9, lA, hcA⟩ := (HIA.out.non HKr.out).at (by omega)
      subst ha9
      have cA := hcA k hlt
      have hsho := HSo.out k hlt
      have hlen := HQh.out.len k hlt
      obtain ⟨z, hz⟩ : ∃ z, A.getD k 0 = z := ⟨_, rfl⟩
      rw [hz] at cA hsho hlen
      have hzm : z ∈ A := by
        have hl : k < A.length := by rw [HL.out]; exact hlt
        rw [← hz, getD_num hl]
        exact List.getElem_mem hl
      have hzb := HFm.out z hzm
      obtain ⟨pi, rfl⟩ := Int.eq_ofNat_of_zero_le hzb.1
      rw [Int.toNat_natCast] at hsho hlen
      have hpN : pi < N := by omega
      obtain ⟨b8, o8, ha8, l1, hc8⟩ := (HI1.out.non HKr.out).at (by omega)
      cases ha8
      have c1 := hc8 pi hpN
      obtain ⟨b8, o8, ha8, l2, hc8⟩ := (HI2.out.non HKr.out).at (by omega)
      cases ha8
      have c2 := hc8 k hlt
      rw [Nat.zero_add] at c1 c2
      rw [hsho] at c2
      obtain ⟨y, hy⟩ : ∃ y, W1.getD pi 0 = y := ⟨_, rfl⟩
      rw [hy] at c1 c2
      obtain ⟨b8, o8, ha8, l3, hc8⟩ := (HR.out.non HKr.out).at (by omega)
      cases ha8
      obtain ⟨ap, cp, c3, hIp⟩ := hc8 pi hpN
      obtain ⟨b8, o8, ha8, l4, hc8⟩ := (HRL.out.non HKr.out).at (by omega)
      cases ha8
      obtain ⟨al, cl, c4, hIl⟩ := hc8 k hlt
      rw [Nat.zero_add] at c3 c4
      have hto := HQh.out.to k hlt
      rw [hlen] at c4 hIl hto
      rw [hz, Int.toNat_natCast] at hto
      obtain ⟨np, hnp⟩ : ∃ l, next.getD pi [] = l := ⟨_, rfl⟩
      obtain ⟨nl, hnl⟩ : ∃ l, Ls.getD k [] = l := ⟨_, rfl⟩
      obtain ⟨ln, hln⟩ : ∃ l, np.length = l := ⟨_, rfl⟩
      rw [hnp] at c3 c4 hIp hIl hto
      rw [hln] at c3 c4 hIp hIl hto
      rw [hnl] at hIl hto
      have HIp := hide hIp
      have HIl := hide hIl
      have HTo := hide hto
      have HZ := hide hz
      have HNp := hide hnp
      have HLn := hide hln
      have HKk := hide HKr.out
      have hlnb : ln ≤ 60 := by
        have := HSh.out pi
        rw [hnp, hln] at this
        exact this
      have z0 : (0 : Int) ≤ (k : Int) := by omega
      have z1 : (k : Int) < (L : Int) := by omega
      have p0 : (0 : Int) ≤ (pi : Int) := by omega
      have p1 : (pi : Int) < (N : Int) := by omega
      have p2 : ¬ (pi : Int) < 0 := by omega
      have p3 : decide ((pi : Int) < 0) = false := decide_eq_false p2
      have p4 : ¬ N ≤ pi := by omega
      have p5 : decide (N ≤ pi) = false := decide_eq_false p4
      have p6 : decide ((N : Int) ≤ (pi : Int)) = false := decide_eq_false (by omega)
      clear hcA hsho hlen hz hzm hzb hc8 hy hIp hIl hto hnp hnl hln
      go_wp2_with fail
      refine wp_region_onto (by kernel_rfl) (by kernel_rfl) ?_
      try simp only [List.append_eq, List.cons_append, List.nil_append]
      repeat (go_big_quiet_step (fail))
      refine wpQuiet_nil ?_
      rintro _ ⟨u, rfl⟩
      obtain ⟨x9, hx9⟩ : ∃ y, onto wr u = y := ⟨_, rfl⟩
      have hk9 := onto_keeps wr u
      rw [hx9] at hk9 ⊢
      have HK9 := hide (HKr.out.then hk9)
      replace HIp := hide (HIp.out.non hk9)
      replace HIl := hide (HIl.out.non hk9)
      have c5 := (hk9.cell (p := ⟨bl, k, none⟩) l4 (fun x => x)).trans c4
      have l5 := Nat.lt_of_lt_of_le l4 hk9.size
      have c6 := (hk9.cell (p := ⟨B, pi, none⟩) l3 (fun x => x)).trans c3
      have HC6 := hide c6
      have l6 := Nat.lt_of_lt_of_le l3 hk9.size
      clear hx9 hk9 cA c1 c2 c3 c4 l1 l2 l3 l4 lA c6
      go_wp2_with fail
      clear c5 l5
      go_loopw [156] (fun t w8 => ∃ r : Nat, r ≤ ln ∧ t = .int .i64 r ∧ Hid (Keeps Non x9 w8)) (fun t _ => ln - (intOf t).toNat)
      case atStart => exact ⟨0, by omega, rfl, Keeps.refl _ _⟩
      case round =>
        obtain ⟨r, hr, rfl, HKt⟩ := hrel
        by_cases hrl : r < ln
        · obtain ⟨b8, o8, ha8, lr, hc8⟩ := (HIl.out.non HKt.out).at (by omega)
          subst ha8
          have cr := hc8 r hrl
          obtain ⟨b7, o7, ha7, lp, hc7⟩ := (HIp.out.non HKt.out).at (by omega)
          subst ha7
          have cq := hc7 r hrl
          have hto := HTo.out r hrl
          obtain ⟨t, ht⟩ : ∃ t, nl.getD r 0 = t := ⟨_, rfl⟩
          rw [ht] at cr hto
          obtain ⟨ti, rfl⟩ := Int.eq_ofNat_of_zero_le hto.1.1
          have htL : ti < L := by omega
          rw [Int.toNat_natCast] at hto
          obtain ⟨b6, o6, ha6, lA, hcA⟩ := ((HIA.out.non HK9.out).non HKt.out).at (by omega)
          cases ha6
          have cA := hcA ti htL
          rw [hto.2] at cA
          obtain ⟨z, hz⟩ : ∃ z, np.getD r 0 = z := ⟨_, rfl⟩
          rw [hz] at cA cq
          have c6 := (HKt.out.cell (p := ⟨B, pi, none⟩) l6 (fun x => x)).trans HC6.out
          have l7 := Nat.lt_of_lt_of_le l6 HKt.out.size
          have r0 : (0 : Int) ≤ (r : Int) := by omega
          have r1' : (r : Int) < (ln : Int) := by omega
          have t0 : (0 : Int) ≤ (ti : Int) := by omega
          have t1 : (ti : Int) < (L : Int) := by omega
          have t2 : ¬ (ti : Int) < 0 := by omega
          have t3 : decide ((ti : Int) < 0) = false := decide_eq_false t2
          have t4 : ¬ L ≤ ti := by omega
          have t5 : decide (L ≤ ti) = false := decide_eq_false t4
          have t6 : decide ((L : Int) ≤ (ti : Int)) = false := decide_eq_false (by omega)
          clear hc8 hc7 hto ht hcA hz
          go_wp2_with fail
          refine wp_region_onto (by kernel_rfl) (by kernel_rfl) ?_
          try simp only [List.append_eq, List.cons_append, List.nil_append]
          repeat (go_big_quiet_step (fail))
          refine wpQuiet_nil ?_
          rintro _ ⟨u, rfl⟩
          go_wp2_with fail
          go_roundw
          case rel => exact ⟨r + 1, by omega, by go_num, HKt.out.then (onto_keeps _ _)⟩
          case measure => simp [intOf]; omega
        · have hrr : r = ln := by omega
          subst hrr
          have y9 : ¬ (r : Int) < (r : Int) := by omega
          have HK8 := hide (HK9.out.then HKt.out)
          go_wp2_with fail
          go_roundw
          case rel => exact ⟨k + 1, by omega, by go_num, HK8.out⟩
          case measure => simp [intOf]; omega
    · have hkl : k = L := by omega
      subst hkl
      have y9 : ¬ (k : Int) < (k : Int) := by omega
      go_wp2_with fail
      obtain ⟨y0, hy0⟩ : ∃ y, y = wr := ⟨_, rfl⟩
      subst hy0
      have HKk := hide HKr.out
      clear y9
      go_loopw [19, 187] (fun v t wx => ∃ j : Nat, j ≤ N ∧ t = .int .i64 j ∧ Hid (wx.ownsRow y0.heap.size 3 1 v j (((upTo N).take j).map (Value.int .i64))) ∧ Hid (Keeps Non y0 wx)) (fun _ t _ => N - (intOf t).toNat)
      case atStart => exact ⟨0, by omega, rfl, World.ownsRow_nil _ _ _ _, Keeps.refl _ _⟩
      case round =>
        obtain ⟨j, hj, rfl, HO, HKj⟩ := hrel
        obtain ⟨a9, c9, hv9⟩ := owns_slice HO.out
        subst hv9
        by_cases hjn : j < N
        · have HTs := hide (upTo_take hjn)
          have z0 : (0 : Int) ≤ (j : Int) := by omega
          have z1 : (j : Int) < (N : Int) := by omega
          go_wp2_with (at_builtin; refine wpList_append_own_at _ rfl _ _ 25 rfl y0.heap.size 3 i0 (.int .i64 0) 1 8 Try.underlying25 hi hz0 hz1 hz2 rfl (by decide) (.slice a9 j c9) j (((upTo N).take j).map (Value.int .i64)) rfl (owns_keeps HO.out ((Keeps.refl Non _).alloc _) (fun _ _ x => x)) ⟨wr.heap.size, 0, none⟩ 1 1 [.int .i64 (j : Int)] rfl ?qc1 ?qc2 ?qc3 ?qc4 ?qc5 ?qc6 ?_)
          case qc1 => rfl
          case qc2 => exact cell_one_new _ _ _
          case qc3 => intro u hu; simp at hu; subst hu; rfl
          case qc4 => unfold maxLen; omega
          case qc5 => omega
          case qc6 => simp; have := HKj.out.size; omega
          intro v' w5 hown hgrow hnil2 hat
          have HO5 := hide hown
          have HG5 := hide (keeps_grown (Keeps.refl (fun b => some b = Value.ownBlock (.slice a9 j c9)) _) hgrow (fun g hg => .inl hg.symm))
          have HLt := hide (owns_here HO.out)
          clear hown hgrow hnil2 hat
          go_wp2_with fail
          go_roundw
          case rel => exact ⟨j + 1, by omega, by go_num, by rw [HTs.out, List.map_append, List.map_take]; exact HO5.out, (HKj.out.alloc _).trans HG5.out (fun i hi e => by have := (HLt.out i e.symm).1; omega)⟩
          case measure => simp [intOf]; omega
        · have hjl : j = N := by omega
          subst hjl
          have y9 : ¬ (j : Int) < (j : Int) := by omega
          have hoo := HO.out
          rw [List.take_of_length_le (by rw [upTo_length]; exact Nat.le_refl _)] at hoo
          obtain ⟨a8, c8, hv8, hIE⟩ := ints_of_owns hoo (by omega)
          cases hv8
          have HIE := hide hIE
          have hkx := HKk.out.then HKj.out
          have hEp : ∀ x ∈ upTo j, 0 ≤ x ∧ x < (j : Int) := fun x hx => upTo_mem.1 hx
          have HEp := hide hEp
          replace HR := hide (HR.out.non hkx)
          replace HIA := hide (HIA.out.non hkx)
          replace HK := hide (HK.out.then hkx)
          clear hoo hIE hkx HO HKj HKk HKr hEp HI1 HI2 HRL HIG
          have C1 := hide (w_only (some ⟨B, 0, none⟩) j j next a9 j c9 (upTo j) next wr HR.out HIE.out HC.out HEp.out (by omega) HQh.out.every.1 HQh.out.every.2 (fun i => by have := HSh.out i; omega))
          go_wp2_with fail
          refine C1.out.mono ?_
          rintro e y1 ⟨bs, rfl, hRS, hk⟩
          have HRS := hide hRS
          replace HR := hide (HR.out.non hk)
          replace HIA := hide (HIA.out.non hk)
          replace HK := hide (HK.out.then hk)
          clear hRS hk C1 HIE
          have C2 := hide (clone_own aa k ca A y1 HIA.out (by omega))
          go_wp2_with fail
          refine C2.out.mono ?_
          rintro e y2 ⟨v, rfl, ho, hk⟩
          obtain ⟨av, cv, hv⟩ := owns_slice ho
          subst hv
          have HOv := hide ho
          have HKv := hide hk
          clear ho hk C2
          go_wp2_with (at_builtin; refine wpList_append_own_at _ rfl _ _ 25 rfl y1.heap.size 3 i0 (.int .i64 0) 1 8 Try.underlying25 hi hz0 hz1 hz2 rfl (by decide) (.slice av k cv) k (A.map (Value.int .i64)) rfl (owns_keeps HOv.out ((Keeps.refl Non _).alloc _) (fun _ _ x => x)) ⟨y2.heap.size, 0, none⟩ 1 1 [.int .i64 (s : Int)] rfl ?qd1 ?qd2 ?qd3 ?qd4 ?qd5 ?qd6 ?_)
          case qd1 => rfl
          case qd2 => exact cell_one_new _ _ _
          case qd3 => intro u hu; simp at hu; subst hu; rfl
          case qd4 => unfold maxLen; omega
          case qd5 => omega
          case qd6 => simp; have := HKv.out.size; omega
          intro v' y3 hown hgrow hnil2 hat
          obtain ⟨a7, c7, hv7⟩ := owns_slice hown
          subst hv7
          have e7 : (A.map (Value.int .i64)) ++ [Value.int .i64 (s : Int)] = (A ++ [(s : Int)]).map (Value.int .i64) := by rw [List.map_append]; rfl
          rw [e7] at hown
          obtain ⟨a6, c6, hv6, hI6⟩ := ints_of_owns hown (by omega)
          cases hv6
          have HI6 := hide hI6
          have hg3 := keeps_grown (Keeps.refl (fun b => some b = Value.ownBlock (.slice av k cv)) _) hgrow (fun g hg => .inl hg.symm)
          have hlt3 := owns_here HOv.out
          have hk13 := (HKv.out.alloc (.cells #[.int .i64 (s : Int)] 3)).trans hg3 (fun i hi e => by have := (hlt3 i e.symm).1; omega)
          have HTw : Hid (∀ x ∈ A ++ [(s : Int)], 0 ≤ x ∧ x < (j : Int)) := fun x hx => by
            rcases List.mem_append.1 hx with h | h
            · exact HFm.out x h
            · rw [List.mem_singleton.1 h]; omega
          have HOn : Hid (∀ x ∈ [(s : Int)], 0 ≤ x ∧ x < (j : Int)) := fun x hx => by rw [List.mem_singleton.1 hx]; omega
          replace HR := hide (HR.out.non hk13)
          replace HRS := hide (HRS.out.non hk13)
          replace HK := hide (HK.out.then hk13)
          clear hown hgrow hnil2 hat e7 hI6 hg3 hlt3 hk13 HKv HOv HIA
          have C3 := hide (w_only_no (some ⟨B, 0, none⟩) j j next a7 (k + 1) c7 (A ++ [(s : Int)]) 2 y3 HR.out HI6.out HC.out HTw.out (by omega) HQh.out.twice (by omega))
          go_wp2_with fail
          refine C3.out.mono ?_
          rintro e y4 ⟨rfl, hk⟩
          replace HR := hide (HR.out.non hk)
          replace HRS := hide (HRS.out.non hk)
          replace HK := hide (HK.out.then hk)
          clear hk C3 HI6
          have hka := (Keeps.refl Non y4).alloc (.cells #[.int .i64 (s : Int)] 3)
          have hcl : closedB next j [(s : Int)] = true ∨ closedB next j [(s : Int)] = false := by cases closedB next j [(s : Int)] <;> simp
          have C4 := hide (closed_yes (some ⟨B, 0, none⟩) j j next (some ⟨y4.heap.size, 0, none⟩) 1 1 [(s : Int)] (y4.alloc (.cells #[.int .i64 (s : Int)] 3)) (HR.out.non hka) (ints_laid y4 [(s : Int)] rfl (by simp)) HC.out HOn.out (by omega))
          obtain ⟨cb, hcb⟩ : ∃ b, closedB next j [(s : Int)] = b := ⟨_, rfl⟩
          rw [hcb] at C4
          have HCb := hide hcb
          clear hcb hcl
          go_wp2_with fail
          refine C4.out.mono ?_
          rintro e y5 ⟨rfl, hk⟩
          have hk2 := hka.then hk
          replace HR := hide (HR.out.non hk2)
          replace HRS := hide (HRS.out.non hk2)
          replace HK := hide (HK.out.then hk2)
          clear hk hk2 C4 hka
          have hkb := (Keeps.refl Non y5).alloc (.cells #[.int .i64 (s : Int)] 3)
          have hone := HQh.out.one
          rw [HCb.out] at hone
          cases cb with
          | true =>
            rw [if_pos rfl] at hone
            have C5 := hide (w_only (some ⟨B, 0, none⟩) j j next (some ⟨y5.heap.size, 0, none⟩) 1 1 [(s : Int)] (onlyL next [(s : Int)]) (y5.alloc (.cells #[.int .i64 (s : Int)] 3)) (HR.out.non hkb) (ints_laid y5 [(s : Int)] rfl (by simp)) HC.out HOn.out (by omega) hone rfl (fun i => by
              match i with
              | 0 =>
                have := HSh.out s
                show ((succL next (s : Int)).map _).length ≤ _
                rw [List.length_map]
                unfold succL
                rw [Int.toNat_natCast]
                omega
              | i + 1 => simp [onlyL]))
            clear hone
            go_wp2_with fail
            refine C5.out.mono ?_
            rintro e y6 ⟨g6, rfl, hR6, hk⟩
            have hk2 := hkb.then hk
            have C6 := hide (lists_l (some ⟨bs, 0, none⟩) j j next (some ⟨B, 0, none⟩) j j next y6 (HRS.out.non hk2) (HR.out.non hk2))
            rw [decide_eq_true rfl] at C6
            replace HK := hide (HK.out.then hk2)
            clear hR6 hk hk2 C5
            go_wp2_with fail
            refine C6.out.mono ?_
            rintro e y7 ⟨rfl, hk⟩
            have HAw := hide (awake_l y7)
            replace HK := hide (HK.out.then hk)
            clear hk C6
            go_wp2_with fail
            refine HAw.out.mono ?_
            rintro e y8 ⟨rfl, hk⟩
            go_wp2_with fail
            go_ret
            exact ⟨rfl, HK.out.then hk⟩
          | false =>
            rw [if_neg (by simp)] at hone
            have C5 := hide (w_only_no (some ⟨B, 0, none⟩) j j next (some ⟨y5.heap.size, 0, none⟩) 1 1 [(s : Int)] 71 (y5.alloc (.cells #[.int .i64 (s : Int)] 3)) (HR.out.non hkb) (ints_laid y5 [(s : Int)] rfl (by simp)) HC.out HOn.out (by omega) hone (by omega))
            clear hone
            go_wp2_with fail
            refine C5.out.mono ?_
            rintro e y6 ⟨rfl, hk⟩
            have hk2 := hkb.then hk
            have C6 := hide (lists_l (some ⟨bs, 0, none⟩) j j next (some ⟨B, 0, none⟩) j j next y6 (HRS.out.non hk2) (HR.out.non hk2))
            rw [decide_eq_true rfl] at C6
            replace HK := hide (HK.out.then hk2)
            clear hk hk2 C5
            go_wp2_with fail
            refine C6.out.mono ?_
            rintro e y7 ⟨rfl, hk⟩
            have HAw := hide (awake_l y7)
            replace HK := hide (HK.out.then hk)
            clear hk C6
            go_wp2_with fail
            refine HAw.out.mono ?_
            rintro e y8 ⟨rfl, hk⟩
            go_wp2_with fail
            go_ret
            exact ⟨rfl, HK.out.then hk⟩
end Go.Proofs.Ythpdflpkkiabhaa
