/-
  ReachFinds: the walk. No condition.
-/
import Derived.Test.YthpdflpkkiabhaaI3
namespace Go.Proofs.Ythpdflpkkiabhaa
open Go.RowKit
attribute [local go_sem] onto_cell onto_frozen
set_option linter.unusedVariables false
theorem madeE_sh (n : Int) (zs : List Int) (b : Nat) : ((madeE n zs).getD b []).length ≤ 60 := by
  have := made2_short (madeN n) zs (min zs.length 120 / 2) b
  unfold madeE
  omega
theorem owns_cap {w : World} {base e n c : Nat} {a : Option Addr} {xs : List Value} (h : w.ownsRow base e 1 (.slice a n c) n xs) : n ≤ c := by
  obtain ⟨_, h2⟩ := h
  rcases h2 with ⟨h3, h4⟩ | ⟨g, cap, cur, h3, _, _, hnc, _⟩
  · omega
  · cases h3
    exact hnc
theorem index_l (a : Option Addr) (n c : Nat) (xs : List Int) (x : Int) (w : World) (h : Ints w a n xs) :
    Calls Try.prog 28 #[.slice a n c, .int .i64 x] w fun e w' => e = .returned (.int .i64 (Lib.idxOf xs x)) ∧ w' = w := by
  have hl := h.len
  have hb := h.big
  by_cases h0 : n = 0
  · subst h0
    have hx : xs = [] := List.eq_nil_of_length_eq_zero hl
    subst hx
    exact Try.slices_Index_int_empty a c x w
  · obtain ⟨b, off, rfl, hbl, hc⟩ := h.at (by omega)
    have := Try.slices_Index_int b off n c xs x w (by omega) (by omega) (fun j hj => hc j (by omega))
    rw [List.take_of_length_le (by omega)] at this
    exact this
set_option maxRecDepth 100000 in
set_option maxHeartbeats 8000000 in
theorem law_finds (nn : Int) (a : Option Addr) (m cap : Nat) (zs : List Int) (st : Int) (w : World) (h : Byts w a m zs) (hnn : 0 ≤ nn ∧ nn ≤ 255) (hst : 0 ≤ st ∧ st ≤ 255) :
    Calls Try.prog 5 #[.int .u8 nn, .slice a m cap, .int .u8 st] w fun e w' => e = .returned (.bool true) ∧ Keeps Non w w' := by
  have HMa := hide (made_l nn a m cap zs w h hnn)
  have hNb := madeN_bd nn
  obtain ⟨next, hnx⟩ : ∃ next, madeE nn zs = next := ⟨_, rfl⟩
  have HC := hide (madeE_check nn zs)
  have HSh := hide (madeE_sh nn zs)
  have hnl := madeE_length nn zs
  obtain ⟨N, hN⟩ : ∃ N, madeN nn = N := ⟨_, rfl⟩
  rw [hnx, hN] at hnl
  rw [hnx] at HMa HC HSh
  rw [hN] at hNb
  have HNl := hide hnl
  obtain ⟨s, hs⟩ : ∃ s : Nat, st % (N : Int) = (s : Int) := ⟨(st % (N : Int)).toNat, by have := Int.emod_nonneg st (b := (N : Int)) (by omega); omega⟩
  have hsN : s < N := by have := Int.emod_lt_of_pos st (b := (N : Int)) (by omega); omega
  have HF := finds (s := (s : Int)) HC.out (by rw [hnl]; omega)
  have HCl := from_closed (s := (s : Int)) HC.out (by rw [hnl]; omega)
  have hfm := fromL_mem (s := (s : Int)) HC.out (by rw [hnl]; omega)
  have hfl := found_len (-1) HC.out (l := [(s : Int)]) (by rw [hnl]; intro x hx; rw [List.mem_singleton.1 hx]; omega)
  have hcs : closureL next N [(s : Int)] = sortL (fromL next N s) := rfl
  have hwb : ∀ i, -1 ≤ (waysL next N s).getD i 0 ∧ (waysL next N s).getD i 0 ≤ 1000 := fun i => by
    have := goW_bd N (foundL (succL next) (-1) N [(s : Int)]) i
    rw [hnl] at hfl
    unfold waysL
    omega
  have hwl : (waysL next N s).length = N := goW_length _ _
  rw [hnl] at HF HCl hfm hfl
  have hal : (fromL next N s).length ≤ N := by unfold fromL; rw [List.length_map]; exact hfl
  obtain ⟨A, hA⟩ : ∃ A, fromL next N s = A := ⟨_, rfl⟩
  obtain ⟨Wy, hWy⟩ : ∃ Wy, waysL next N s = Wy := ⟨_, rfl⟩
  rw [hA] at HF HCl hfm hal hcs
  rw [hWy] at HF hwb hwl
  obtain ⟨p, hp⟩ : ∃ p, A.length = p := ⟨_, rfl⟩
  have HP := hide hp
  rw [hp] at hal
  have HAe := hide hA
  have HWe := hide hWy
  have HFi := hide HF
  have HCl2 := hide HCl
  have HFm := hide hfm
  have HCs := hide hcs
  have HWb := hide hwb
  have HWl := hide hwl
  have hp0 : 0 < p := by rw [← hp]; exact HF.first.1
  have r1 : st.tmod (N : Int) = (s : Int) := by rw [Int.tmod_eq_emod_of_nonneg (by omega), hs]
  have r2 : IntKind.i64.wrap st = st := IntWalk.i64_in _ (by omega)
  have r3 : ¬ N = 0 := by omega
  have r4 : ¬ (N : Int) = 0 := by omega
  clear h hnx hN hnl hs hA hWy hp HF HCl hfm hcs hwb hwl hfl
  go_enter Try.func5, Try.ntmps5
  go_wp2_with fail
  refine HMa.out.mono ?_
  rintro e w1 ⟨v, rfl, B, S, rfl, hB, hRa, hk1⟩
  rw [HNl.out]
  have HR : Hid (Rows w1 (some ⟨B, 0, none⟩) N next) := by
    have h := hRa.rows (by rw [HNl.out]; omega) (fun i => by have := HSh.out i; omega)
    rw [HNl.out] at h
    exact h
  obtain ⟨C, hC⟩ : ∃ C, w1.heap.size = C := ⟨_, rfl⟩
  have H7 : Hid (Blk (w1.alloc (.cells #[.slice (some ⟨B, 0, none⟩) N N] 23)) C [.slice (some ⟨B, 0, none⟩) N N] 23) := Blk.newAt w1 [.slice (some ⟨B, 0, none⟩) N N] 23 hC.symm
  have HK := hide (hk1.alloc (.cells #[.slice (some ⟨B, 0, none⟩) N N] 23))
  replace HR := hide (HR.out.non ((Keeps.refl Non w1).alloc (.cells #[.slice (some ⟨B, 0, none⟩) N N] 23)))
  have c7 := H7.out.cell 0
  simp only [List.getElem?_cons_zero] at c7
  have l7 := H7.out.lt
  clear hRa hk1 hB HMa
  go_wp2_with fail
  obtain ⟨W1, hW1⟩ : ∃ W1, w1.alloc (.cells #[.slice (some ⟨B, 0, none⟩) N N] 23) = W1 := ⟨_, rfl⟩
  rw [hW1] at H7 HK HR c7 l7
  try rw [hW1]
  try rw [hC]
  clear hW1 hC
  have C1 := hide (from_yes (some ⟨B, 0, none⟩) N N next s W1 HR.out HC.out (by omega))
  rw [HAe.out] at C1
  refine C1.out.mono ?_
  rintro e x1 ⟨v, rfl, hO⟩
  obtain ⟨a9, c9, hv9⟩ := owns_slice hO.1
  subst hv9
  have hcap := owns_cap hO.1
  rw [HP.out] at hcap
  obtain ⟨a8, c8, hv8, hIA⟩ := ints_of_owns hO.1 (by rw [HP.out]; omega)
  cases hv8
  rw [HP.out] at hIA ⊢
  have HIA := hide hIA
  have hk := hO.2
  replace H7 := hide (H7.out.non hk)
  replace HR := hide (HR.out.non hk)
  replace HK := hide (HK.out.then hk)
  clear hO hIA hk C1 c7 l7
  have c7 := H7.out.cell 0
  simp only [List.getElem?_cons_zero] at c7
  have l7 := H7.out.lt
  have C2 := hide (ways_yes (some ⟨B, 0, none⟩) N N next s x1 HR.out HC.out (by omega))
  rw [HWe.out] at C2
  go_wp2_with fail
  refine C2.out.mono ?_
  rintro e x2 ⟨v, rfl, bw, rfl, hbw, hBw, hk⟩
  rw [HWl.out]
  have hIW := ints_of_blk hBw (by rw [HWl.out]; omega)
  rw [HWl.out] at hIW
  obtain ⟨D, hD⟩ : ∃ D, x2.heap.size = D := ⟨_, rfl⟩
  have hka := (Keeps.refl Non x2).alloc (.cells #[.slice (some ⟨bw, 0, none⟩) N N] 25)
  have H11 : Hid (Blk (x2.alloc (.cells #[.slice (some ⟨bw, 0, none⟩) N N] 25)) D [.slice (some ⟨bw, 0, none⟩) N N] 25) := Blk.newAt x2 [.slice (some ⟨bw, 0, none⟩) N N] 25 hD.symm
  have HIW := hide (hIW.non hka)
  replace H7 := hide (H7.out.non (hk.then hka))
  replace HR := hide (HR.out.non (hk.then hka))
  replace HIA := hide (HIA.out.non (hk.then hka))
  replace HK := hide (HK.out.then (hk.then hka))
  clear c7 l7 hbw hBw hk hIW hka C2
  have c7 := H7.out.cell 0
  simp only [List.getElem?_cons_zero] at c7
  have l7 := H7.out.lt
  go_wp2_with fail
  obtain ⟨W2, hW2⟩ : ∃ W2, x2.alloc (.cells #[.slice (some ⟨bw, 0, none⟩) N N] 25) = W2 := ⟨_, rfl⟩
  rw [hW2] at H7 HK HR HIA HIW H11 c7 l7
  try rw [hW2]
  clear hW2 hD
  -- Closed
  have C3 := hide (closed_yes (some ⟨B, 0, none⟩) N N next a9 p c9 A W2 HR.out HIA.out HC.out HFm.out (by omega))
  rw [HCl2.out] at C3
  refine C3.out.mono ?_
  rintro e x3 ⟨rfl, hk⟩
  replace H7 := hide (H7.out.non hk)
  replace H11 := hide (H11.out.non hk)
  replace HR := hide (HR.out.non hk)
  replace HIA := hide (HIA.out.non hk)
  replace HIW := hide (HIW.out.non hk)
  replace HK := hide (HK.out.then hk)
  clear c7 l7 hk C3
  have c7 := H7.out.cell 0
  simp only [List.getElem?_cons_zero] at c7
  have l7 := H7.out.lt
  -- Closure
  have hka := (Keeps.refl Non x3).alloc (.cells #[.int .i64 (s : Int)] 3)
  have C4 := hide (closure_yes (some ⟨B, 0, none⟩) N N next (some ⟨x3.heap.size, 0, none⟩) 1 1 [(s : Int)] (x3.alloc (.cells #[.int .i64 (s : Int)] 3)) (HR.out.non hka) (ints_laid x3 [(s : Int)] rfl (by simp)) HC.out (by intro x hx; rw [List.mem_singleton.1 hx]; omega) (by omega))
  rw [HCs.out] at C4
  go_wp2_with fail
  refine C4.out.mono ?_
  rintro e x4 ⟨v, rfl, hO⟩
  obtain ⟨a7, c77, hv7⟩ := owns_slice hO.1
  subst hv7
  obtain ⟨a6, c6, hv6, hIB⟩ := ints_of_owns hO.1 (by rw [sortL_length, HP.out]; omega)
  cases hv6
  have hsl : (sortL A).length = p := by rw [sortL_length, HP.out]
  have Hsl := hide hsl
  rw [hsl] at hIB ⊢
  have hk := hka.then hO.2
  have HIB := hide hIB
  replace H7 := hide (H7.out.non hk)
  replace H11 := hide (H11.out.non hk)
  replace HR := hide (HR.out.non hk)
  replace HIA := hide (HIA.out.non hk)
  replace HIW := hide (HIW.out.non hk)
  replace HK := hide (HK.out.then hk)
  clear c7 l7 hk C4 hka hO hIB hsl
  have c7 := H7.out.cell 0
  have c11 := H11.out.cell 0
  simp only [List.getElem?_cons_zero] at c7 c11
  have l7 := H7.out.lt
  have l11 := H11.out.lt
  obtain ⟨b9, o9, ha9, hb9, hc9⟩ := HIA.out.at hp0
  have cA0 := hc9 0 hp0
  rw [HFi.out.first.2, Nat.add_zero] at cA0
  subst ha9
  have g0 : (0 : Int) < (p : Int) := by omega
  have g2 : ((p : Int) == 0) = false := by simp; omega
  have g3 : ¬ p = 0 := by omega
  clear hb9 hc9
  go_wp2_with fail
  refine (values_any _ _ _ _).mono ?_
  rintro e x5 ⟨rfl, rfl⟩
  have hka := (Keeps.refl Non x4).alloc (.cells #[.slice (some ⟨b9, o9, none⟩) p c9] 25)
  have C5 := hide (sorted_l (some ⟨b9, o9, none⟩) p c9 x4.heap.size A (x4.alloc (.cells #[.slice (some ⟨b9, o9, none⟩) p c9] 25)) (HIA.out.non hka) (by omega) (Blk.new x4 [.slice (some ⟨b9, o9, none⟩) p c9] 25))
  go_wp2_with fail
  refine C5.out.mono ?_
  rintro e x6 ⟨v, rfl, hO⟩
  obtain ⟨a5, c5, hv5⟩ := owns_slice hO.1
  subst hv5
  obtain ⟨a4, c4, hv4, hIS⟩ := ints_of_owns hO.1 (by rw [Hsl.out]; omega)
  cases hv4
  rw [Hsl.out] at hIS ⊢
  have hk := hka.then hO.2
  have hE := equal_any a7 p c77 (sortL A) a5 p c5 (sortL A) x6 (HIB.out.non hk) hIS
  rw [decide_eq_true rfl] at hE
  have C6 := hide hE
  replace H7 := hide (H7.out.non hk)
  replace H11 := hide (H11.out.non hk)
  replace HR := hide (HR.out.non hk)
  replace HIA := hide (HIA.out.non hk)
  replace HIW := hide (HIW.out.non hk)
  replace HK := hide (HK.out.then hk)
  clear hk C5 hka hO hIS hE HIB
  go_wp2_with fail
  refine C6.out.mono ?_
  rintro e x7 ⟨rfl, hk⟩
  replace H7 := hide (H7.out.non hk)
  replace H11 := hide (H11.out.non hk)
  replace HR := hide (HR.out.non hk)
  replace HIA := hide (HIA.out.non hk)
  replace HIW := hide (HIW.out.non hk)
  replace HK := hide (HK.out.then hk)
  clear hk C6 c7 l7 c11 l11 cA0
  go_wp2_with fail
  go_loopw [98] (fun t wr => ∃ k : Nat, k ≤ p ∧ t = .int .i64 k ∧ Hid (Keeps Non x7 wr)) (fun t _ => p - (intOf t).toNat)
  case atStart => exact ⟨0, by omega, rfl, Keeps.refl _ _⟩
  case round =>
    obtain ⟨k, hk, rfl, HKr⟩ := hrel
    by_cases hlt : k < p
    · have hIA := HIA.out.non HKr.out
      obtain ⟨b8, o8, ha8, hb8, hc8⟩ := hIA.at (by omega)
      cases ha8
      have ck := hc8 k hlt
      have hpt := HFi.out.pt k (by rw [HP.out]; exact hlt)
      have hix := HFi.out.idx k (by rw [HP.out]; exact hlt)
      obtain ⟨x, hx⟩ : ∃ x, A.getD k 0 = x := ⟨_, rfl⟩
      rw [hx] at ck hpt hix
      obtain ⟨pi, rfl⟩ := Int.eq_ofNat_of_zero_le hpt.1
      have hpN : pi < N := by omega
      obtain ⟨E, hE⟩ : ∃ E, wr.heap.size = E := ⟨_, rfl⟩
      have hka := (Keeps.refl Non wr).alloc (.cells #[.int .i64 (pi : Int)] 3)
      have hkx := HKr.out.then hka
      have H18 : Hid (Blk (wr.alloc (.cells #[.int .i64 (pi : Int)] 3)) E [.int .i64 (pi : Int)] 3) := Blk.newAt wr [.int .i64 (pi : Int)] 3 hE.symm
      have HX := hide (index_l (some ⟨b9, o9, none⟩) p c9 A pi (wr.alloc (.cells #[.int .i64 (pi : Int)] 3)) (HIA.out.non hkx))
      rw [hix] at HX
      have c7 := (H7.out.non hkx).cell 0
      have c11 := (H11.out.non hkx).cell 0
      have c18 := H18.out.cell 0
      simp only [List.getElem?_cons_zero] at c7 c11 c18
      have l7 := (H7.out.non hkx).lt
      have l11 := (H11.out.non hkx).lt
      have l18 := H18.out.lt
      obtain ⟨bv, ov, hav, hbv, hcv⟩ := (HIW.out.non hkx).at (by omega)
      cases hav
      have cw := hcv pi hpN
      rw [Nat.zero_add] at cw
      have HKx := hide hkx
      have HXx := hide hx
      have z0 : (0 : Int) ≤ (k : Int) := by omega
      have z1 : (k : Int) < (p : Int) := by omega
      have p0 : (0 : Int) ≤ (pi : Int) := by omega
      have p1 : (pi : Int) < (N : Int) := by omega
      have p2 : ¬ (pi : Int) < 0 := by omega
      have p3 : decide ((pi : Int) < 0) = false := decide_eq_false (by omega)
      have p4 : decide ((N : Int) ≤ (pi : Int)) = false := decide_eq_false (by omega)
      have p5 : ¬ (N : Int) ≤ (pi : Int) := by omega
      obtain ⟨y, hy⟩ : ∃ y, Wy.getD pi 0 = y := ⟨_, rfl⟩
      rw [hy] at cw
      have HYy := hide hy
      have hyb := HWb.out pi
      rw [hy] at hyb
      clear hIA hb8 hc8 hpt hix hx hka hkx hbv hcv hy
      by_cases hk0 : k = 0
      · subst hk0
        have hpis : (pi : Int) = (s : Int) := by rw [← HXx.out, HFi.out.first.2]
        have hy0 : y = 0 := by
          rw [← HYy.out]
          have h := HFi.out.w0
          rw [Int.toNat_natCast] at h
          have e : pi = s := by omega
          rw [e]
          exact h
        subst hy0
        clear hpis
        rw [Nat.add_zero] at ck
        go_wp2_with fail
        refine HX.out.mono ?_
        rintro e w2 ⟨rfl, hw2⟩
        rw [hw2]
        clear hw2
        go_wp2_with fail
        go_roundw
        case rel => exact ⟨1, by omega, by go_num, HKx.out⟩
        case measure =>
          simp [intOf]
          try omega
      · have k0 : ((k : Int) == 0) = false := by simp; omega
        have hst2 := HFi.out.step k (by omega) (by rw [HP.out]; exact hlt)
        have hled := HFi.out.led k (by omega) (by rw [HP.out]; exact hlt)
        rw [HXx.out] at hst2 hled
        rw [Int.toNat_natCast, HYy.out] at hst2 hled
        obtain ⟨bu, ou, hau, hbu, hcu⟩ := (HIA.out.non HKx.out).at (by omega)
        cases hau
        have hpp := HFi.out.pt (k - 1) (by rw [HP.out]; omega)
        obtain ⟨x2, hx2⟩ : ∃ x, A.getD (k - 1) 0 = x := ⟨_, rfl⟩
        rw [hx2] at hpp hst2
        obtain ⟨pj, rfl⟩ := Int.eq_ofNat_of_zero_le hpp.1
        rw [Int.toNat_natCast] at hst2
        obtain ⟨z, hz⟩ : ∃ z, Wy.getD pj 0 = z := ⟨_, rfl⟩
        rw [hz] at hst2
        have HZz := hide hz
        have HX2 := hide hx2
        have hIk := ints_pre (HIA.out.non HKx.out) (show k ≤ p by omega)
        have HCt := hide (contains_int3 (some ⟨b9, o9, none⟩) k c9 (A.take k) 30 (.pointer (some ⟨C, 0, none⟩)) (.pointer (some ⟨E, 0, none⟩)) (.pointer (some ⟨D, 0, none⟩)) (fun q => decide ((pi : Int) ∈ succL next q) && decide (Wy.getD q.toNat 0 = y - 1)) (wr.alloc (.cells #[.int .i64 (pi : Int)] 3)) ent30 hIk (fun q w' hq hk' => by
          have hq2 := HFm.out q (List.mem_of_mem_take hq)
          obtain ⟨qi, rfl⟩ := Int.eq_ofNat_of_zero_le hq2.1
          have hkk := HKx.out.then hk'
          have h := led_l qi pi N N N (some ⟨B, 0, none⟩) (some ⟨bw, 0, none⟩) next Wy C E D w' (HR.out.non hkk) (HIW.out.non hkk) (H7.out.non hkk) (H18.out.non hk') (H11.out.non hkk) (by omega) hpN (fun i => by have := HWb.out i; omega)
          rw [HYy.out] at h
          exact h))
        rw [hled] at HCt
        have hyb2 := HWb.out pj
        rw [hz] at hyb2
        have hpjN : pj < N := by omega
        have s1 : (0 : Int) ≤ (k : Int) - 1 := by omega
        have s2 : (k : Int) - 1 < (p : Int) := by omega
        have s3 : ((k : Int) - 1).toNat = k - 1 := by omega
        have s4 : k ≤ c9 := by omega
        clear hled hbu hcu hpp hx2 hz hIk
        go_wp2_with fail
        refine HX.out.mono ?_
        rintro e w2 ⟨rfl, hw2⟩
        rw [hw2]
        clear hw2
        go_wp2_with fail
        refine HCt.out.mono ?_
        rintro e w3 ⟨rfl, hk3⟩
        have hk9 := HKx.out.then hk3
        have HK9 := hide hk9
        have c11' := (H11.out.non hk9).cell 0
        have c18' := (H18.out.non hk3).cell 0
        simp only [List.getElem?_cons_zero] at c11' c18'
        have l11' := (H11.out.non hk9).lt
        have l18' := (H18.out.non hk3).lt
        obtain ⟨b7, o7, ha7, hb7, hc7⟩ := (HIA.out.non hk9).at (by omega)
        cases ha7
        have cj := hc7 (k - 1) (by omega)
        rw [HX2.out] at cj
        obtain ⟨b6, o6, ha6, hb6, hc6⟩ := (HIW.out.non hk9).at (by omega)
        cases ha6
        have cwi := hc6 pi hpN
        have cwj := hc6 pj (by omega)
        rw [Nat.zero_add, HYy.out] at cwi
        rw [Nat.zero_add, HZz.out] at cwj
        have j0 : (0 : Int) ≤ (pj : Int) := by omega
        have j1 : (pj : Int) < (N : Int) := by omega
        have wk : IntKind.i64.wrap ((k : Int) - 1) = (k : Int) - 1 := IntWalk.i64_in _ (by omega)
        have wz : IntKind.i64.wrap (z + 1) = z + 1 := IntWalk.i64_in _ (by omega)
        have y1 : ¬ y < z := by omega
        have y2 : ¬ z + 1 < y := by omega
        have y3 : decide (y < z) = false := decide_eq_false y1
        have y4 : decide (z + 1 < y) = false := decide_eq_false y2
        clear hk3 hk9 hc7 hc6 c7 c11 c18 l7 l11 l18 cw ck HCt HX
        go_wp2_with fail
        refine wp_region_onto (by kernel_rfl) (by kernel_rfl) ?_
        try simp only [List.append_eq, List.cons_append, List.nil_append]
        repeat (go_big_quiet_step (fail))
        refine wpQuiet_nil ?_
        rintro _ ⟨u, rfl⟩
        go_wp2_with fail
        go_roundw
        case rel => exact ⟨k + 1, by omega, by go_num, HK9.out.then (onto_keeps _ _)⟩
        case measure => simp [intOf]; omega
    · have hkp : k = p := by omega
      subst hkp
      have y9 : ¬ (k : Int) < (k : Int) := by omega
      have c11 := (H11.out.non HKr.out).cell 0
      simp only [List.getElem?_cons_zero] at c11
      have l11 := (H11.out.non HKr.out).lt
      go_wp2_with fail
      have HKq := hide HKr.out
      clear c11 l11
      go_loopw [166] (fun t wr => ∃ k : Nat, k ≤ N ∧ t = .int .i64 k ∧ Hid (Keeps Non x7 wr)) (fun t _ => N - (intOf t).toNat)
      case atStart => exact ⟨0, by omega, rfl, HKq.out⟩
      case round =>
        obtain ⟨q, hq, rfl, HKr⟩ := hrel
        by_cases hqN : q < N
        · have hfar := HFi.out.far q hqN
          have hon := HFi.out.on q hqN
          obtain ⟨b6, o6, ha6, hb6, hc6⟩ := (HIW.out.non HKr.out).at (by omega)
          cases ha6
          have cy := hc6 q hqN
          obtain ⟨y, hy⟩ : ∃ y, Wy.getD q 0 = y := ⟨_, rfl⟩
          rw [hy] at cy hfar hon
          rw [Nat.zero_add] at cy
          have hyb := HWb.out q
          rw [hy] at hyb
          have HCt := hide (contains_l (some ⟨b9, o9, none⟩) k c9 A q wr (HIA.out.non HKr.out))
          have c7 := (H7.out.non HKr.out).cell 0
          have c11 := (H11.out.non HKr.out).cell 0
          simp only [List.getElem?_cons_zero] at c7 c11
          have l7 := (H7.out.non HKr.out).lt
          have l11 := (H11.out.non HKr.out).lt
          obtain ⟨bn, on, ha5, hbn, hcn⟩ := (HR.out.non HKr.out).at (by omega)
          cases ha5
          obtain ⟨ai, ci, hci, hIi⟩ := hcn q hqN
          obtain ⟨ll, hll⟩ : ∃ ll, next.getD q [] = ll := ⟨_, rfl⟩
          have hsl : succL next (q : Int) = ll := hll
          rw [hll] at hci hIi
          rw [Nat.zero_add] at hci
          rw [hsl] at hon
          obtain ⟨ln, hln⟩ : ∃ ln, ll.length = ln := ⟨_, rfl⟩
          rw [hln] at hci hIi
          have hlnb : ln ≤ 17592186044416 := hIi.big
          have HIi := hide hIi
          have Htb : Hid (∀ t ∈ ll, 0 ≤ t ∧ t < (N : Int)) := fun t ht => by
            have := checkB_succ HC.out q (by rw [HNl.out]; omega) t (by rw [hsl]; exact ht)
            rw [HNl.out] at this
            exact this
          have HOn := hide hon
          have z0 : (0 : Int) ≤ (q : Int) := by omega
          have z1 : (q : Int) < (N : Int) := by omega
          clear hy hc6 hb6 hbn hcn hIi hll hsl hln hon
          by_cases hy0 : 0 ≤ y
          · have hin : (q : Int) ∈ A := hfar.1.1 hy0
            rw [decide_eq_true hin] at HCt
            have y1 : ¬ y < -1 := by omega
            have y2 : decide (y < -1) = false := decide_eq_false y1
            have y3 : decide (0 ≤ y) = true := decide_eq_true hy0
            have y4 : IntKind.i64.wrap (y + 1) = y + 1 := IntWalk.i64_in _ (by omega)
            clear hfar hin
            go_wp2_with fail
            refine HCt.out.mono ?_
            rintro e w2 ⟨rfl, hw2⟩
            rw [hw2]
            clear hw2
            go_wp2_with fail
            have HK3 := hide HKr.out
            clear c7 c11 l7 l11 cy hci
            go_loopw [186] (fun t wr => ∃ r : Nat, r ≤ ln ∧ t = .int .i64 r ∧ Hid (Keeps Non x7 wr) ∧ Hid (Ints wr ai ln ll)) (fun t _ => ln - (intOf t).toNat)
            case atStart => exact ⟨0, by omega, rfl, HK3.out, HIi.out⟩
            case round =>
              obtain ⟨r, hr, rfl, HKr, HIr⟩ := hrel
              by_cases hrl : r < ln
              · obtain ⟨b4, o4, ha4, hb4, hc4⟩ := HIr.out.at (by omega)
                have cr := hc4 r hrl
                have hlen := HIr.out.len
                obtain ⟨t, ht⟩ : ∃ t, ll.getD r 0 = t := ⟨_, rfl⟩
                rw [ht] at cr
                have htm : t ∈ ll := by rw [← ht, getD_num (by omega)]; exact List.getElem_mem _
                have htb := Htb.out t htm
                have hto := HOn.out hy0 t htm
                obtain ⟨ti, rfl⟩ := Int.eq_ofNat_of_zero_le htb.1
                rw [Int.toNat_natCast] at hto
                obtain ⟨b6, o6, ha6, hb6, hc6⟩ := (HIW.out.non HKr.out).at (by omega)
                cases ha6
                have cz := hc6 ti (by omega)
                rw [Nat.zero_add] at cz
                obtain ⟨z, hz⟩ : ∃ z, Wy.getD ti 0 = z := ⟨_, rfl⟩
                rw [hz] at cz hto
                have c11 := (H11.out.non HKr.out).cell 0
                simp only [List.getElem?_cons_zero] at c11
                have l11 := (H11.out.non HKr.out).lt
                have r0 : (0 : Int) ≤ (r : Int) := by omega
                have r1' : (r : Int) < (ln : Int) := by omega
                have t0 : (0 : Int) ≤ (ti : Int) := by omega
                have t1 : (ti : Int) < (N : Int) := by omega
                have w1' : ¬ z < 0 := by omega
                have w2' : ¬ y + 1 < z := by omega
                have w3' : decide (z < 0) = false := decide_eq_false w1'
                have w4' : decide (y + 1 < z) = false := decide_eq_false w2'
                subst ha4
                clear hc4 hlen ht htm htb hto hc6 hb6 hz hb4
                go_wp2_with fail
                go_roundw
                case rel => exact ⟨r + 1, by omega, by go_num, HKr.out, HIr.out⟩
                case measure => simp [intOf]; omega
              · have hrr : r = ln := by omega
                subst hrr
                have y9 : ¬ (r : Int) < (r : Int) := by omega
                go_wp2_with fail
                go_roundw
                case rel => exact ⟨q + 1, by omega, by go_num, HKr.out⟩
                case measure => simp [intOf]; omega
          · have hin : (q : Int) ∉ A := fun h => hy0 (hfar.1.2 h)
            rw [decide_eq_false hin] at HCt
            have y1 : ¬ y < -1 := by omega
            have y2 : decide (y < -1) = false := decide_eq_false y1
            have y3 : decide (0 ≤ y) = false := decide_eq_false hy0
            clear hfar hin
            go_wp2_with fail
            refine HCt.out.mono ?_
            rintro e w2 ⟨rfl, hw2⟩
            rw [hw2]
            clear hw2
            go_wp2_with fail
            have HK3 := hide HKr.out
            clear c7 c11 l7 l11 cy hci
            go_loopw [186] (fun t wr => ∃ r : Nat, r ≤ ln ∧ t = .int .i64 r ∧ Hid (Keeps Non x7 wr) ∧ Hid (Ints wr ai ln ll)) (fun t _ => ln - (intOf t).toNat)
            case atStart => exact ⟨0, by omega, rfl, HK3.out, HIi.out⟩
            case round =>
              obtain ⟨r, hr, rfl, HKr, HIr⟩ := hrel
              by_cases hrl : r < ln
              · obtain ⟨b4, o4, ha4, hb4, hc4⟩ := HIr.out.at (by omega)
                have cr := hc4 r hrl
                have r0 : (0 : Int) ≤ (r : Int) := by omega
                have r1' : (r : Int) < (ln : Int) := by omega
                subst ha4
                clear hc4 hb4
                go_wp2_with fail
                go_roundw
                case rel => exact ⟨r + 1, by omega, by go_num, HKr.out, HIr.out⟩
                case measure => simp [intOf]; omega
              · have hrr : r = ln := by omega
                subst hrr
                have y9 : ¬ (r : Int) < (r : Int) := by omega
                go_wp2_with fail
                go_roundw
                case rel => exact ⟨q + 1, by omega, by go_num, HKr.out⟩
                case measure => simp [intOf]; omega
        · have hqq : q = N := by omega
          subst hqq
          have y9 : ¬ (q : Int) < (q : Int) := by omega
          have HAw := hide (awake_l wr)
          go_wp2_with fail
          refine HAw.out.mono ?_
          rintro e q2 ⟨rfl, hkq⟩
          go_wp2_with fail
          go_ret
          exact ⟨rfl, (HK.out.then HKr.out).then hkq⟩
end Go.Proofs.Ythpdflpkkiabhaa
