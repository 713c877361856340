/-
  ReachCloses: the walk. No condition.
-/
import Derived.Test.YthpdflpkkiabhaaPk
import Derived.Test.YthpdflpkkiabhaaVs
import Derived.Test.YthpdflpkkiabhaaGr
import Derived.Test.YthpdflpkkiabhaaPs
import Derived.Test.YthpdflpkkiabhaaLf
namespace Go.Proofs.Ythpdflpkkiabhaa
open Go.RowKit
attribute [local go_sem] onto_cell onto_frozen
set_option linter.unusedVariables false
theorem rows2_laid (w W : World) (a1 a2 : Option Addr) (n1 n2 c1 c2 : Nat) (xs ys : List Int) (hs : W.heap.size = w.heap.size) (hw : W.heap = w.heap) (h1 : Ints W a1 n1 xs) (h2 : Ints W a2 n2 ys) : Rows (W.alloc (.cells #[.slice a1 n1 c1, .slice a2 n2 c2] 25)) (some ⟨w.heap.size, 0, none⟩) 2 [xs, ys] := by
  have hb : Blk (W.alloc (.cells #[.slice a1 n1 c1, .slice a2 n2 c2] 25)) w.heap.size [.slice a1 n1 c1, .slice a2 n2 c2] 25 := Blk.newAt W [.slice a1 n1 c1, .slice a2 n2 c2] 25 hs.symm
  have k := (Keeps.refl Non W).alloc (.cells #[.slice a1 n1 c1, .slice a2 n2 c2] 25)
  refine ⟨rfl, by omega, .inr ⟨w.heap.size, 0, rfl, hb.lt, fun i hi => ?_⟩⟩
  match i, hi with
  | 0, _ => exact ⟨a1, c1, by rw [hb.cell]; show some (Value.slice a1 n1 c1) = some (Value.slice a1 xs.length c1); rw [h1.len], by show Ints _ a1 xs.length xs; rw [h1.len]; exact h1.non k⟩
  | 1, _ => exact ⟨a2, c2, by rw [hb.cell]; show some (Value.slice a2 n2 c2) = some (Value.slice a2 ys.length c2); rw [h2.len], by show Ints _ a2 ys.length ys; rw [h2.len]; exact h2.non k⟩
/-- slices.Concat of two. -/
theorem cat_q (V w : World) (hk : Keeps Non V w) (a0 : Option Addr) (xs ys : List Int) (ln : Nat) (hln : (xs ++ ys).length = ln) (hr : Rows w a0 2 [xs, ys]) (hn : xs.length ≤ 10000 ∧ ys.length ≤ 10000) :
    Calls Try.prog 20 #[.slice a0 2 2] w fun e w' => ∃ a' c' u, w' = onto V u ∧ e = .returned (.slice a' ln c') ∧ Hid (Ints w' a' ln (xs ++ ys)) := by
  subst hln
  refine (concat_l a0 2 2 [xs, ys] w hr (by omega) (fun i => by
    match i with
    | 0 => show xs.length ≤ _; omega
    | 1 => show ys.length ≤ _; omega
    | i + 2 => simp)).mono ?_
  rintro e w' ⟨v, rfl, hO⟩
  have ef : [xs, ys].flatten = xs ++ ys := by simp
  rw [ef] at hO
  obtain ⟨a9, c9, rfl, hI⟩ := ints_of_owns hO.1 (by rw [List.length_append]; omega)
  exact ⟨a9, c9, w', (onto_of (hk.then hO.2)).symm, rfl, hI⟩
/-- Closure, with what it hands over by its slice. -/
theorem clo_q (V w : World) (hk : Keeps Non V w) (a : Option Addr) (n cap : Nat) (next : List (List Int)) (b : Option Addr) (m cap2 : Nat) (l A : List Int) (la : Nat) (h : Rows V a n next) (h2 : Ints w b m l) (hc : checkB next = true) (hl : ∀ x ∈ l, 0 ≤ x ∧ x < (n : Int)) (hm : m ≤ 100000) (hA : closureL next n l = A) (hla : A.length = la) (hb : la ≤ 100000) :
    Calls Try.prog 19 #[.slice a n cap, .slice b m cap2] w fun e w' => ∃ a' c' u, w' = onto V u ∧ e = .returned (.tuple #[.slice a' la c', .int .i64 0]) ∧ Hid (Ints w' a' la A) := by
  refine (closure_yes a n cap next b m cap2 l w (h.non hk) h2 hc hl hm).mono ?_
  rintro e w' ⟨v, rfl, hO⟩
  rw [hA] at hO
  obtain ⟨a9, c9, rfl, hI⟩ := ints_of_owns hO.1 (by omega)
  rw [hla] at hI ⊢
  exact ⟨a9, c9, w', (onto_of (hk.then hO.2)).symm, rfl, hI⟩
theorem closureL_few {next : List (List Int)} {l : List Int} (hc : checkB next = true) (hl : ∀ x ∈ l, 0 ≤ x ∧ x < (next.length : Int)) : (closureL next next.length l).length ≤ next.length := by
  unfold closureL
  rw [sortL_length, List.length_map]
  exact found_len (-1) hc hl
set_option maxRecDepth 100000 in
set_option maxHeartbeats 8000000 in
theorem law_closes (nn : Int) (a : Option Addr) (m cap : Nat) (zs : List Int) (aj : Option Addr) (mj capj : Nat) (zj : List Int) (ak : Option Addr) (mk capk : Nat) (zk : List Int) (w : World) (h : Byts w a m zs) (hj : Byts w aj mj zj) (hrj : mj ≤ capj ∧ capj ≤ 9223372036854775807) (hnj : aj = none → capj = 0) (hk : Byts w ak mk zk) (hrk : mk ≤ capk ∧ capk ≤ 9223372036854775807) (hnk : ak = none → capk = 0) (hnn : 0 ≤ nn ∧ nn ≤ 255) :
    Calls Try.prog 4 #[.int .u8 nn, .slice a m cap, .slice aj mj capj, .slice ak mk capk] w fun e w' => e = .returned (.bool true) ∧ Keeps Non w w' := by
  have HMa := hide (made_l nn a m cap zs w h hnn)
  have HJ := hide hj
  have HKk := hide hk
  have hNb := madeN_bd nn
  obtain ⟨next, hnx⟩ : ∃ next, madeE nn zs = next := ⟨_, rfl⟩
  have HC := hide (madeE_check nn zs)
  have HSh := hide (madeE_sh nn zs)
  have hnl := madeE_length nn zs
  obtain ⟨N, hN⟩ : ∃ N, madeN nn = N := ⟨_, rfl⟩
  rw [hnx, hN] at hnl
  rw [hnx] at HMa HC HSh
  rw [hN] at hNb
  have HNl := hide hnl
  obtain ⟨X, hX⟩ : ∃ X, ptsL N zj = X := ⟨_, rfl⟩
  obtain ⟨Y, hY⟩ : ∃ Y, ptsL N zk = Y := ⟨_, rfl⟩
  have hXp := ptsL_in (N := N) (by omega) zj
  have hYp := ptsL_in (N := N) (by omega) zk
  have hXl := ptsL_length N zj
  have hYl := ptsL_length N zk
  rw [hX] at hXp hXl
  rw [hY] at hYp hYl
  have hXYp : ∀ p ∈ X ++ Y, 0 ≤ p ∧ p < (N : Int) := fun p hp => (List.mem_append.1 hp).elim (hXp p) (hYp p)
  have HP := closes_plain HC.out (x := X) (y := Y) (by rw [hnl]; exact hXp) (by rw [hnl]; exact hYp)
  have hAf := closureL_few HC.out (l := X) (by rw [hnl]; exact hXp)
  have hBf := closureL_few HC.out (l := Y) (by rw [hnl]; exact hYp)
  have hCf := closureL_few HC.out (l := X ++ Y) (by rw [hnl]; exact hXYp)
  rw [hnl] at HP hAf hBf hCf
  obtain ⟨A, hA⟩ : ∃ A, closureL next N X = A := ⟨_, rfl⟩
  obtain ⟨Bc, hB⟩ : ∃ A, closureL next N Y = A := ⟨_, rfl⟩
  obtain ⟨Cc, hCc⟩ : ∃ A, closureL next N (X ++ Y) = A := ⟨_, rfl⟩
  have hbo := HP.both
  have htw := HP.twice
  have his := HP.is
  have hhas := HP.has
  have hown := HP.own
  have hpts := HP.pts
  rw [hA, hB, hCc] at hbo
  rw [hA] at htw his hhas hown hpts
  rw [hA] at hAf
  rw [hB] at hBf
  rw [hCc] at hCf
  obtain ⟨la, hla⟩ : ∃ l, A.length = l := ⟨_, rfl⟩
  obtain ⟨lb, hlb⟩ : ∃ l, Bc.length = l := ⟨_, rfl⟩
  obtain ⟨lc, hlc⟩ : ∃ l, Cc.length = l := ⟨_, rfl⟩
  obtain ⟨lx, hlx⟩ : ∃ l, X.length = l := ⟨_, rfl⟩
  obtain ⟨ly, hly⟩ : ∃ l, Y.length = l := ⟨_, rfl⟩
  rw [hla] at hAf
  rw [hlb] at hBf
  rw [hlc] at hCf
  rw [hlx] at hXl
  rw [hly] at hYl
  obtain ⟨S, hS⟩ : ∃ S, Lib.compact (sortL X) = S := ⟨_, rfl⟩
  obtain ⟨ls, hls⟩ : ∃ l, S.length = l := ⟨_, rfl⟩
  rw [hS] at hown
  have HX := hide hX
  have HY := hide hY
  have HXp := hide hXp
  have HYp := hide hYp
  have HXYp := hide hXYp
  have HA := hide hA
  have HBc := hide hB
  have HCc := hide hCc
  have HBo := hide hbo
  have HTw := hide htw
  have HIs := hide his
  have HHas := hide hhas
  have HOwn := hide hown
  have HPts := hide hpts
  have HLa := hide hla
  have HLb := hide hlb
  have HLc := hide hlc
  have HLx := hide hlx
  have HLy := hide hly
  have HS := hide hS
  have HLs := hide hls
  have bx : lx ≤ 8 := by omega
  have by' : ly ≤ 8 := by omega
  clear h hj hk hnx hN hnl hX hY hXp hYp hXl hYl hXYp HP hA hB hCc hbo htw his hhas hown hpts hla hlb hlc hlx hly hS hls
  go_enter Try.func4, Try.ntmps4
  go_wp2_with fail
  refine HMa.out.mono ?_
  rintro e w1 ⟨v, rfl, B, S0, rfl, hB, hRa, hk1⟩
  rw [HNl.out]
  have HR : Hid (Rows w1 (some ⟨B, 0, none⟩) N next) := by
    have h := hRa.rows (by rw [HNl.out]; omega) (fun i => by have := HSh.out i; omega)
    rw [HNl.out] at h
    exact h
  obtain ⟨C, hC⟩ : ∃ C, w1.heap.size = C := ⟨_, rfl⟩
  have hka := (Keeps.refl Non w1).alloc (.cells #[.slice (some ⟨B, 0, none⟩) N N] 23)
  have H7 : Hid (Blk (w1.alloc (.cells #[.slice (some ⟨B, 0, none⟩) N N] 23)) C [.slice (some ⟨B, 0, none⟩) N N] 23) := Blk.newAt w1 [.slice (some ⟨B, 0, none⟩) N N] 23 hC.symm
  have HK := hide (hk1.then hka)
  replace HR := hide (HR.out.non hka)
  replace HJ := hide (HJ.out.non HK.out)
  replace HKk := hide (HKk.out.non HK.out)
  clear hRa hk1 hB HMa hka
  go_wp2_with fail
  obtain ⟨x0, hx0⟩ : ∃ W1, w1.alloc (.cells #[.slice (some ⟨B, 0, none⟩) N N] 23) = W1 := ⟨_, rfl⟩
  rw [hx0] at H7 HK HR HJ HKk
  try rw [hx0]
  try rw [hC]
  clear hx0 hC
  have C1 := hide (points_l aj mj capj zj C N N (some ⟨B, 0, none⟩) x0 HJ.out hrj hnj H7.out (by omega))
  rw [HX.out] at C1
  refine C1.out.mono ?_
  rintro e x1 ⟨v, rfl, hO⟩
  obtain ⟨ax, cx, hv, hI⟩ := ints_of_owns hO.1 (by rw [HLx.out]; omega)
  subst hv
  rw [HLx.out] at hI ⊢
  have HIx := hide hI
  have hkk := hO.2
  replace H7 := hide (H7.out.non hkk)
  replace HR := hide (HR.out.non hkk)
  replace HKk := hide (HKk.out.non hkk)
  replace HK := hide (HK.out.then hkk)
  clear hO hI hkk C1 HJ
  have C1 := hide (points_l ak mk capk zk C N N (some ⟨B, 0, none⟩) x1 HKk.out hrk hnk H7.out (by omega))
  rw [HY.out] at C1
  go_wp2_with fail
  refine C1.out.mono ?_
  rintro e x2 ⟨v, rfl, hO⟩
  obtain ⟨ay, cy, hv, hI⟩ := ints_of_owns hO.1 (by rw [HLy.out]; omega)
  subst hv
  rw [HLy.out] at hI ⊢
  have HIy := hide hI
  have hkk := hO.2
  replace H7 := hide (H7.out.non hkk)
  replace HR := hide (HR.out.non hkk)
  replace HIx := hide (HIx.out.non hkk)
  replace HK := hide (HK.out.then hkk)
  clear hO hI hkk C1 HKk
  have c7 := H7.out.cell 0
  simp only [List.getElem?_cons_zero] at c7
  have l7 := H7.out.lt
  have C1 := hide (clo_q x2 x2 (Keeps.refl _ _) (some ⟨B, 0, none⟩) N N next ax lx cx X A la HR.out HIx.out HC.out HXp.out (by omega) HA.out HLa.out (by omega))
  go_wp2_with fail
  refine C1.out.mono ?_
  rintro e x3 ⟨aa, ca, u9, hw9, rfl, HIa⟩
  have hkk := onto_keeps x2 u9
  rw [← hw9] at hkk
  clear hw9 u9
  replace H7 := hide (H7.out.non hkk)
  replace HR := hide (HR.out.non hkk)
  replace HIx := hide (HIx.out.non hkk)
  replace HIy := hide (HIy.out.non hkk)
  replace HK := hide (HK.out.then hkk)
  clear hkk C1
  clear c7 l7
  have c7 := H7.out.cell 0
  simp only [List.getElem?_cons_zero] at c7
  have l7 := H7.out.lt
  have C1 := hide (clo_q x3 x3 (Keeps.refl _ _) (some ⟨B, 0, none⟩) N N next ay ly cy Y Bc lb HR.out HIy.out HC.out HYp.out (by omega) HBc.out HLb.out (by omega))
  go_wp2_with fail
  refine C1.out.mono ?_
  rintro e x4 ⟨ab, cb, u9, hw9, rfl, HIb⟩
  have hkk := onto_keeps x3 u9
  rw [← hw9] at hkk
  clear hw9 u9
  replace H7 := hide (H7.out.non hkk)
  replace HR := hide (HR.out.non hkk)
  replace HIx := hide (HIx.out.non hkk)
  replace HIy := hide (HIy.out.non hkk)
  replace HIa := hide (HIa.out.non hkk)
  replace HK := hide (HK.out.then hkk)
  clear hkk C1
  clear c7 l7
  have c7 := H7.out.cell 0
  simp only [List.getElem?_cons_zero] at c7
  have l7 := H7.out.lt
  obtain ⟨lxy, hxy⟩ : ∃ l, (X ++ Y).length = l := ⟨_, rfl⟩
  have hxyl : lxy ≤ 100 := by rw [← hxy, List.length_append, HLx.out, HLy.out]; omega
  have HXYe := hide hxy
  clear hxy
  have HRw := hide ((rows2_laid x4 x4 ax ay lx ly cx cy X Y rfl rfl HIx.out HIy.out).non ((Keeps.refl Non _).drew))
  have HXYn : Hid (X.length ≤ 10000 ∧ Y.length ≤ 10000) := by show _ ∧ _; rw [HLx.out, HLy.out]; omega
  go_upto_region 6 with fail
  go_region_with (first | (go_at_call 20; refine (cat_q x4 _ (((Keeps.refl Non x4).alloc _).drew) _ X Y lxy HXYe.out HRw.out HXYn.out).mono ?_; rintro e w9 ⟨a9, c9, u9, rfl, rfl, hI9⟩) | (go_at_call 19; refine (clo_q x4 _ (onto_keeps x4 _) (some ⟨B, 0, none⟩) N N next a9 lxy c9 (X ++ Y) Cc lc HR.out hI9.out HC.out HXYp.out (by omega) HCc.out HLc.out (by omega)).mono ?_; rintro e w8 ⟨ac, cc, u8, rfl, rfl, HIc⟩))
  all_goals
    obtain ⟨x5, hy9⟩ : ∃ y, onto x4 u8 = y := ⟨_, rfl⟩
    have hkk := onto_keeps x4 u8
    rw [hy9] at hkk HIc ⊢
    clear hy9
    replace H7 := hide (H7.out.non hkk)
    replace HR := hide (HR.out.non hkk)
    replace HIx := hide (HIx.out.non hkk)
    replace HIy := hide (HIy.out.non hkk)
    replace HIa := hide (HIa.out.non hkk)
    replace HIb := hide (HIb.out.non hkk)
    replace HK := hide (HK.out.then hkk)
    clear hkk
    clear c7 l7
    have c7 := H7.out.cell 0
    simp only [List.getElem?_cons_zero] at c7
    have l7 := H7.out.lt
    have C1 := hide (clo_q x5 x5 (Keeps.refl _ _) (some ⟨B, 0, none⟩) N N next aa la ca A A la HR.out HIa.out HC.out HPts.out (by omega) HTw.out HLa.out (by omega))
    go_wp2_with fail
    refine C1.out.mono ?_
    rintro e x6 ⟨ad, cd, u9, hw9, rfl, HId⟩
    have hkk := onto_keeps x5 u9
    rw [← hw9] at hkk
    clear hw9 u9
    replace H7 := hide (H7.out.non hkk)
    replace HR := hide (HR.out.non hkk)
    replace HIx := hide (HIx.out.non hkk)
    replace HIy := hide (HIy.out.non hkk)
    replace HIa := hide (HIa.out.non hkk)
    replace HIb := hide (HIb.out.non hkk)
    replace HIc := hide (HIc.out.non hkk)
    replace HK := hide (HK.out.then hkk)
    clear hkk C1
    clear c7 l7
    have c7 := H7.out.cell 0
    simp only [List.getElem?_cons_zero] at c7
    have l7 := H7.out.lt
    have C1 := hide (closed_yes (some ⟨B, 0, none⟩) N N next aa la ca A x6 HR.out HIa.out HC.out HPts.out (by omega))
    rw [HIs.out] at C1
    go_wp2_with fail
    refine C1.out.mono ?_
    rintro e x7 ⟨rfl, hkk⟩
    replace H7 := hide (H7.out.non hkk)
    replace HR := hide (HR.out.non hkk)
    replace HIx := hide (HIx.out.non hkk)
    replace HIy := hide (HIy.out.non hkk)
    replace HIa := hide (HIa.out.non hkk)
    replace HIb := hide (HIb.out.non hkk)
    replace HIc := hide (HIc.out.non hkk)
    replace HId := hide (HId.out.non hkk)
    replace HK := hide (HK.out.then hkk)
    clear hkk C1
    clear c7 l7
    have c7 := H7.out.cell 0
    simp only [List.getElem?_cons_zero] at c7
    have l7 := H7.out.lt
    have C1 := hide (closed_yes (some ⟨B, 0, none⟩) N N next ax lx cx X x7 HR.out HIx.out HC.out HXp.out (by omega))
    rw [HOwn.out] at C1
    go_wp2_with fail
    refine C1.out.mono ?_
    rintro e x8 ⟨rfl, hkk⟩
    replace H7 := hide (H7.out.non hkk)
    replace HR := hide (HR.out.non hkk)
    replace HIx := hide (HIx.out.non hkk)
    replace HIy := hide (HIy.out.non hkk)
    replace HIa := hide (HIa.out.non hkk)
    replace HIb := hide (HIb.out.non hkk)
    replace HIc := hide (HIc.out.non hkk)
    replace HId := hide (HId.out.non hkk)
    replace HK := hide (HK.out.then hkk)
    clear hkk C1
    clear c7 l7
    obtain ⟨lab, hab⟩ : ∃ l, (A ++ Bc).length = l := ⟨_, rfl⟩
    have habl : lab ≤ 100 := by rw [← hab, List.length_append, HLa.out, HLb.out]; omega
    have HAB2 : Hid ((sortL (A ++ Bc)).length = lab) := by show _ = _; rw [sortL_length, hab]
    have HABe := hide hab
    clear hab
    have HRv := hide (rows2_laid x8 x8 aa ab la lb ca cb A Bc rfl rfl HIa.out HIb.out)
    have HABn : Hid (A.length ≤ 10000 ∧ Bc.length ≤ 10000) := by show _ ∧ _; rw [HLa.out, HLb.out]; omega
    go_wp2_with fail
    refine (cat_q x8 _ ((Keeps.refl Non x8).alloc _) _ A Bc lab HABe.out HRv.out HABn.out).mono ?_
    rintro e w9 ⟨a9, c9, u9, hw9, rfl, hI9⟩
    have hk9 := onto_keeps x8 u9
    rw [← hw9] at hk9
    clear hw9 u9
    go_wp2_with fail
    refine (val_q w9 w9 (Keeps.refl _ _) a9 lab c9).mono ?_
    rintro e _ ⟨b4, u4, rfl, rfl, hB4⟩
    go_wp2_with fail
    refine (sor_q w9 _ (onto_keeps w9 _) a9 lab c9 b4 (A ++ Bc) hI9.out (by omega) hB4.out).mono ?_
    rintro e _ ⟨a5, c5, u5, rfl, rfl, hO5⟩
    go_wp2_with fail
    refine (com_q w9 _ (onto_keeps w9 _) a5 lab c5 (sortL (A ++ Bc)) HAB2.out hO5.out (by omega)).mono ?_
    rintro e _ ⟨ae, ce, u6, rfl, rfl, HIe⟩
    obtain ⟨x9, hy9⟩ : ∃ y, onto w9 u6 = y := ⟨_, rfl⟩
    have hkk := hk9.then (onto_keeps w9 u6)
    rw [hy9] at hkk HIe ⊢
    rw [← HBo.out, HLc.out] at HIe ⊢
    clear hy9 hB4 hO5 hk9 hI9
    replace H7 := hide (H7.out.non hkk)
    replace HR := hide (HR.out.non hkk)
    replace HIx := hide (HIx.out.non hkk)
    replace HIy := hide (HIy.out.non hkk)
    replace HIa := hide (HIa.out.non hkk)
    replace HIb := hide (HIb.out.non hkk)
    replace HIc := hide (HIc.out.non hkk)
    replace HId := hide (HId.out.non hkk)
    replace HK := hide (HK.out.then hkk)
    clear hkk
    have C1 := hide (equal_any ad la cd A aa la ca A x9 HId.out HIa.out)
    rw [decide_eq_true rfl] at C1
    go_wp2_with fail
    refine C1.out.mono ?_
    rintro e x10 ⟨rfl, hkk⟩
    replace H7 := hide (H7.out.non hkk)
    replace HR := hide (HR.out.non hkk)
    replace HIx := hide (HIx.out.non hkk)
    replace HIy := hide (HIy.out.non hkk)
    replace HIa := hide (HIa.out.non hkk)
    replace HIb := hide (HIb.out.non hkk)
    replace HIc := hide (HIc.out.non hkk)
    replace HId := hide (HId.out.non hkk)
    replace HIe := hide (HIe.out.non hkk)
    replace HK := hide (HK.out.then hkk)
    clear hkk C1
    have C1 := hide (equal_any ac lc cc Cc ae lc ce Cc x10 HIc.out HIe.out)
    rw [decide_eq_true rfl] at C1
    go_wp2_with fail
    refine C1.out.mono ?_
    rintro e x11 ⟨rfl, hkk⟩
    replace H7 := hide (H7.out.non hkk)
    replace HR := hide (HR.out.non hkk)
    replace HIx := hide (HIx.out.non hkk)
    replace HIy := hide (HIy.out.non hkk)
    replace HIa := hide (HIa.out.non hkk)
    replace HIb := hide (HIb.out.non hkk)
    replace HIc := hide (HIc.out.non hkk)
    replace HId := hide (HId.out.non hkk)
    replace HIe := hide (HIe.out.non hkk)
    replace HK := hide (HK.out.then hkk)
    clear hkk C1
    have HX2 : Hid ((sortL X).length = lx) := by show _ = _; rw [sortL_length]; exact HLx.out
    go_wp2_with fail
    refine (val_q x11 x11 (Keeps.refl _ _) ax lx cx).mono ?_
    rintro e _ ⟨b4, u4, rfl, rfl, hB4⟩
    go_wp2_with fail
    refine (sor_q x11 _ (onto_keeps x11 _) ax lx cx b4 X HIx.out (by omega) hB4.out).mono ?_
    rintro e _ ⟨a5, c5, u5, rfl, rfl, hO5⟩
    go_wp2_with fail
    refine (com_q x11 _ (onto_keeps x11 _) a5 lx c5 (sortL X) HX2.out hO5.out (by omega)).mono ?_
    rintro e _ ⟨af, cf, u6, rfl, rfl, HIf⟩
    obtain ⟨x12, hy9⟩ : ∃ y, onto x11 u6 = y := ⟨_, rfl⟩
    have hkk := onto_keeps x11 u6
    rw [hy9] at hkk HIf ⊢
    rw [HS.out, HLs.out] at HIf ⊢
    clear hy9 hB4 hO5
    replace H7 := hide (H7.out.non hkk)
    replace HR := hide (HR.out.non hkk)
    replace HIx := hide (HIx.out.non hkk)
    replace HIy := hide (HIy.out.non hkk)
    replace HIa := hide (HIa.out.non hkk)
    replace HIb := hide (HIb.out.non hkk)
    replace HIc := hide (HIc.out.non hkk)
    replace HId := hide (HId.out.non hkk)
    replace HIe := hide (HIe.out.non hkk)
    replace HK := hide (HK.out.then hkk)
    clear hkk
    go_wp2_with fail
    go_loopw [119] (fun t wr => ∃ k : Nat, k ≤ lx ∧ t = .int .i64 k ∧ Hid (Keeps Non x12 wr)) (fun t _ => lx - (intOf t).toNat)
    case atStart => exact ⟨0, by omega, rfl, Keeps.refl _ _⟩
    case round =>
      obtain ⟨k, hk, rfl, HKr⟩ := hrel
      by_cases hlt : k < lx
      · obtain ⟨b1, o1, ha1, lb1, hc1⟩ := (HIx.out.non HKr.out).at (by omega)
        subst ha1
        have ck := hc1 k hlt
        obtain ⟨z, hz⟩ : ∃ z, X.getD k 0 = z := ⟨_, rfl⟩
        rw [hz] at ck
        have hzm : z ∈ A := HHas.out z (by
          have hl : k < X.length := by rw [HLx.out]; exact hlt
          rw [← hz, getD_num hl]
          exact List.getElem_mem hl)
        have CN := hide (contains_l aa la ca A z wr (HIa.out.non HKr.out))
        rw [decide_eq_true hzm] at CN
        have z0 : (0 : Int) ≤ (k : Int) := by omega
        have z1 : (k : Int) < (lx : Int) := by omega
        clear hc1 hz hzm
        go_wp2_with fail
        refine CN.out.mono ?_
        rintro e w5 ⟨rfl, hw⟩
        rw [hw]
        clear hw w5
        go_wp2_with fail
        go_roundw
        case rel => exact ⟨k + 1, by omega, by go_num, HKr.out⟩
        case measure => simp [intOf]; omega
      · have hkl : k = lx := by omega
        subst hkl
        have y9 : ¬ (k : Int) < (k : Int) := by omega
        have C1 := hide (equal_any aa la ca A af ls cf S wr (HIa.out.non HKr.out) (HIf.out.non HKr.out))
        obtain ⟨v, hv⟩ : ∃ v, decide (A = S) = v := ⟨_, rfl⟩
        rw [hv] at C1 ⊢
        clear hv
        go_wp2_with fail
        refine C1.out.mono ?_
        rintro e w5 ⟨rfl, hkk⟩
        have HKz := hide (HKr.out.then hkk)
        clear hkk C1
        have HAw := hide (awake_l w5)
        cases v
        all_goals
          go_wp2_with fail
          refine HAw.out.mono ?_
          rintro e q2 ⟨rfl, hkq⟩
          go_wp2_with fail
          go_ret
          exact ⟨rfl, (HK.out.then HKz.out).then hkq⟩
end Go.Proofs.Ythpdflpkkiabhaa
