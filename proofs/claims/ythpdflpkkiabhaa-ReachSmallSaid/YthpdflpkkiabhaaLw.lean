/-
  ReachWrong: the walk. No condition.
-/
import Derived.Test.YthpdflpkkiabhaaAw
import Derived.Test.YthpdflpkkiabhaaMa
import Derived.Test.YthpdflpkkiabhaaCp
namespace Go.Proofs.Ythpdflpkkiabhaa
open Go.RowKit
attribute [local go_sem] onto_cell onto_frozen
set_option linter.unusedVariables false
/-- A copy at a known place. -/
structure CopAt (base : Nat) (w : World) (g : Nat) (S rest : List Value) (xss : List (List Int)) : Prop where
  blk : Blk w g (S ++ rest) 25
  len : S.length = xss.length
  kids : KidsO base w S xss
theorem CopP.at {w w' : World} {v : Value} {xss : List (List Int)} (h : CopP w w' v xss) (h0 : 0 < xss.length) : ∃ g cap S rest, v = .slice (some ⟨g, 0, none⟩) xss.length cap ∧ w.heap.size ≤ g ∧ xss.length ≤ cap ∧ CopAt w.heap.size w' g S rest xss := by
  obtain ⟨S, ho, hk, _⟩ := h
  have hl : S.length = xss.length := by have := ho.1; omega
  obtain ⟨_, h2⟩ := ho
  rcases h2 with ⟨rfl, h3⟩ | ⟨g, cap, cur, rfl, hg, hh, hnc, hcm, hsz, htk⟩
  · omega
  · refine ⟨g, cap, S, cur.toList.drop xss.length, rfl, hg, hnc, ?_, hl, hk⟩
    unfold Blk
    rw [hh]
    rw [Nat.mul_one] at htk
    have e : S ++ cur.toList.drop xss.length = cur.toList := by
      conv => rhs; rw [← List.take_append_drop xss.length cur.toList]
      rw [htk]
    rw [e]
theorem KidsO.ne {base : Nat} {w : World} {g : Nat} {S rest : List Value} {xss : List (List Int)} (h : CopAt base w g S rest xss) {j : Nat} (hj : j < xss.length) {u : Value} (hu : S[j]? = some u) : ∀ b, u.ownBlock = some b → b ≠ g := fun b hb e => by
  obtain ⟨u2, h1, h2⟩ := h.kids.row j hj
  rw [hu] at h1
  cases h1
  subst e
  obtain ⟨_, h3⟩ := h2
  rcases h3 with ⟨rfl, _⟩ | ⟨g2, cap, cur, rfl, _, hh, _⟩
  · cases hb
  · cases hb
    have hbk := h.blk
    unfold Blk at hbk
    rw [hbk] at hh
    simp at hh
/-- The copy, one of its lists put anew. -/
theorem CopAt.turn {base : Nat} {w w1 w5 : World} {g : Nat} {S rest : List Value} {xss : List (List Int)} (h : CopAt base w g S rest xss) (hb : xss.length ≤ 100000) (hbl : ∀ j, (xss.getD j []).length ≤ 1000000) {i : Nat} (hi : i < xss.length) {v v' : Value} (hv : S[i]? = some v) (k1 : Keeps Non w w1) {ys : List Int} (hy : ys.length ≤ 1000001)
    (hown : w5.ownsRow base 3 1 v' ys.length (ys.map (Value.int .i64))) (hgrow : w1.grownBy w5 v.ownBlock) (hvg : ∀ b, v'.ownBlock = some b → b ≠ g) : Rows (w5.setCell ⟨g, i, none⟩ v') (some ⟨g, 0, none⟩) xss.length (xss.set i ys) := by
  have hg5 : Blk w5 g (S ++ rest) 25 := (h.blk.keeps k1 (fun x => x)).of_eq (hgrow.block g (h.blk.keeps k1 (fun x => x)).lt (fun e => KidsO.ne h hi hv g e.symm rfl))
  have hg6 := hg5.store i v'
  refine ⟨by simp, by omega, .inr ⟨g, 0, rfl, hg6.lt, fun j hj => ?_⟩⟩
  rw [hg6.cell, Nat.zero_add, getD_set hi]
  by_cases hij : i = j
  · subst hij
    rw [if_pos rfl, List.getElem?_set_self (by rw [List.length_append, h.len]; omega)]
    obtain ⟨a, c, rfl, hI⟩ := ints_of_owns (owns_of_eq hown (fun b hb2 => Below.heap_setCell w5 ⟨g, i, none⟩ v' b (hvg b hb2))) (by omega)
    exact ⟨a, c, rfl, hI⟩
  · rw [if_neg hij, List.getElem?_set_ne hij, List.getElem?_append_left (by rw [h.len]; exact hj)]
    obtain ⟨u, h1, h2⟩ := h.kids.row j hj
    have h3 : w5.ownsRow base 3 1 u (xss.getD j []).length ((xss.getD j []).map (Value.int .i64)) := owns_of_eq' h2 (fun b hb2 hl => (hgrow.block b (Nat.lt_of_lt_of_le hl k1.size) (fun e => h.kids.apart i j v u hij hi hj hv h1 b e.symm hb2)).trans (k1.block b hl (fun x => x)))
    obtain ⟨a, c, rfl, hI⟩ := ints_of_owns (owns_of_eq h3 (fun b hb2 => Below.heap_setCell w5 ⟨g, i, none⟩ v' b (KidsO.ne h hj h1 b hb2))) (by have := hbl j; omega)
    exact ⟨a, c, h1, hI⟩
theorem lit_bounds {z : Int} (h : (Lit.int .i64 z).wf = true) : -9223372036854775808 ≤ z ∧ z ≤ 9223372036854775807 := of_wf h
theorem wrongE_2 {next : List (List Int)} {l : List Int} (hc : checkB next = true) {d : Int} (hd : d ∈ l) (hb : badB next.length d = true) : wrongE next l = 2 := by
  unfold wrongE
  rw [if_pos hc, if_pos (List.any_eq_true.2 ⟨d, hd, hb⟩)]
theorem wrongE_70 {next : List (List Int)} (l : List Int) (hc : ¬ checkB next = true) : wrongE next l = 70 := if_neg hc
theorem set_bad {next : List (List Int)} {i : Nat} (hi : i < next.length) {d : Int} (hb : badB next.length d = true) : ¬ checkB (next.set i (next.getD i [] ++ [d])) = true := fun h => by
  have h2 := (checkB_iff.1 h).2.2 (next.getD i [] ++ [d]) (List.mem_set hi _) d (by simp)
  rw [List.length_set] at h2
  rw [badB_no.2 h2] at hb
  cases hb
theorem madeE_short (n : Int) (zs : List Int) (b : Nat) : ((madeE n zs).getD b []).length ≤ 60 := by
  have := made2_short (madeN n) zs (min zs.length 120 / 2) b
  unfold madeE
  omega
set_option maxRecDepth 100000 in
set_option maxHeartbeats 8000000 in
theorem law_wrong (nn : Int) (a : Option Addr) (m cap : Nat) (zs : List Int) (at' z : Int) (w : World) (h : Byts w a m zs) (hnn : 0 ≤ nn ∧ nn ≤ 255) (ha : 0 ≤ at' ∧ at' ≤ 255) (hz : (Lit.int .i64 z).wf = true) :
    Calls Try.prog 10 #[.int .u8 nn, .slice a m cap, .int .u8 at', .int .i64 z] w fun e w' => e = .returned (.bool true) ∧ Keeps Non w w' := by
  obtain ⟨i0, hi, hz0, hz1, hz2⟩ := info3_parts
  have HMa := hide (made_l nn a m cap zs w h hnn)
  have hNb := madeN_bd nn
  obtain ⟨next, hnx⟩ : ∃ next, madeE nn zs = next := ⟨_, rfl⟩
  have HC := hide (madeE_check nn zs)
  have HSh := hide (madeE_short nn zs)
  have hnl := madeE_length nn zs
  obtain ⟨N, hN⟩ : ∃ N, madeN nn = N := ⟨_, rfl⟩
  rw [hnx, hN] at hnl
  rw [hnx] at HMa HC HSh
  rw [hN] at hNb
  have HNl := hide hnl
  have hzb := lit_bounds hz
  obtain ⟨ym, hym⟩ : ∃ y, min z (-1) = y := ⟨_, rfl⟩
  obtain ⟨yx, hyx⟩ : ∃ y, max z (N : Int) = y := ⟨_, rfl⟩
  have HY : Hid (∀ d, d = ym ∨ d = yx → badB next.length d = true ∧ -9223372036854775808 ≤ d ∧ d ≤ 9223372036854775807) := fun d hd => by
    rw [HNl.out]
    unfold badB
    simp only [Bool.or_eq_true, decide_eq_true_eq]
    omega
  clear h hnx hN hnl hzb hz
  go_enter Try.func10, Try.ntmps10
  go_wp2_with fail
  refine HMa.out.mono ?_
  rintro e w1 ⟨v, rfl, B, S, rfl, hB, hRa, hk1⟩
  rw [HNl.out]
  have HK1 := hide hk1
  have HR : Hid (Rows w1 (some ⟨B, 0, none⟩) N next) := by
    have h := hRa.rows (by rw [HNl.out]; omega) (fun i => by have := HSh.out i; omega)
    rw [HNl.out] at h
    exact h
  obtain ⟨C, hC⟩ : ∃ C, w1.heap.size = C := ⟨_, rfl⟩
  have HC0 : Hid (Blk (w1.alloc (.cells #[.int .i64 ym, .int .i64 yx] 3)) C [.int .i64 ym, .int .i64 yx] 3) := Blk.newAt w1 [.int .i64 ym, .int .i64 yx] 3 hC.symm
  have HK0 := hide (hk1.alloc (.cells #[.int .i64 ym, .int .i64 yx] 3))
  have HR0 := hide (HR.out.non ((Keeps.refl Non w1).alloc (.cells #[.int .i64 ym, .int .i64 yx] 3)))
  clear hRa hk1 HR HK1 HMa hB
  go_wp2_with fail
  obtain ⟨W1, hW1⟩ : ∃ W1, w1.alloc (.cells #[.int .i64 ym, .int .i64 yx] 3) = W1 := ⟨_, rfl⟩
  rw [hW1] at HC0 HK0 HR0
  try rw [hW1]
  try rw [hC]
  clear hW1 hC
  go_loopw [37] (fun t wr => ∃ k : Nat, k ≤ 2 ∧ t = .int .i64 k ∧ Hid (Keeps Non W1 wr)) (fun t _ => 2 - (intOf t).toNat)
  case atStart => exact ⟨0, by omega, rfl, Keeps.refl _ _⟩
  case round =>
    obtain ⟨k, hk, rfl, HK⟩ := hrel
    have HCb := hide (HC0.out.keeps HK.out (fun x => x))
    have HR := hide (HR0.out.non HK.out)
    by_cases hlt : k < 2
    · have hd : ∃ d, (d = ym ∨ d = yx) ∧ wr.cell? ⟨C, k, none⟩ = some (.int .i64 d) := by
        have hc := HCb.out.cell k
        match k, hlt with
        | 0, _ => exact ⟨ym, .inl rfl, hc⟩
        | 1, _ => exact ⟨yx, .inr rfl, hc⟩
      obtain ⟨d, hd, cd⟩ := hd
      have HD := hide (HY.out d hd)
      have z0 : (0 : Int) ≤ (k : Int) := by omega
      have z1 : (k : Int) < 2 := by omega
      clear hd hym hyx HCb
      have C1 := hide (from_no (some ⟨B, 0, none⟩) N N next d 2 wr HR.out (wrongE_2 HC.out (d := d) (by simp) HD.out.1) (by decide))
      go_wp2_with fail
      refine C1.out.mono ?_
      rintro e x1 ⟨rfl, hk1⟩
      replace HR := hide (HR.out.non hk1)
      replace HK := hide (HK.out.then hk1)
      clear hk1 C1
      have C2 := hide (ways_no (some ⟨B, 0, none⟩) N N next d 2 x1 HR.out (wrongE_2 HC.out (d := d) (by simp) HD.out.1) (by decide))
      go_wp2_with fail
      refine C2.out.mono ?_
      rintro e x2 ⟨rfl, hk2⟩
      replace HR := hide (HR.out.non hk2)
      replace HK := hide (HK.out.then hk2)
      clear hk2 C2
      have C3 := hide (musts_no (some ⟨B, 0, none⟩) N N next d 2 x2 HR.out (wrongE_2 HC.out (d := d) (by simp) HD.out.1) (by decide))
      go_wp2_with fail
      refine C3.out.mono ?_
      rintro e x3 ⟨rfl, hk3⟩
      replace HR := hide (HR.out.non hk3)
      replace HK := hide (HK.out.then hk3)
      clear hk3 C3
      have C0 := closed_no (some ⟨B, 0, none⟩) N N next (some ⟨x3.heap.size, 0, none⟩) 2 2 [0, d] 2 (x3.alloc (.cells #[.int .i64 0, .int .i64 d] 3)) (HR.out.non ((Keeps.refl Non x3).alloc _)) (ints_laid x3 [0, d] rfl (by simp)) (wrongE_2 HC.out (d := d) (by simp) HD.out.1) (by decide)
      have C4 := hide C0
      have hka4 := (Keeps.refl Non x3).alloc (.cells #[.int .i64 0, .int .i64 d] 3)
      have HKa4 := hide hka4
      clear C0 hka4
      go_wp2_with fail
      refine C4.out.mono ?_
      rintro e x4 ⟨rfl, hk4⟩
      replace HR := hide (HR.out.non (HKa4.out.then hk4))
      replace HK := hide (HK.out.then (HKa4.out.then hk4))
      clear hk4 HKa4 C4
      have C0 := closure_no (some ⟨B, 0, none⟩) N N next (some ⟨x4.heap.size, 0, none⟩) 1 1 [d] 2 (x4.alloc (.cells #[.int .i64 d] 3)) (HR.out.non ((Keeps.refl Non x4).alloc _)) (ints_laid x4 [d] rfl (by simp)) (wrongE_2 HC.out (d := d) (by simp) HD.out.1) (by decide)
      have C5 := hide C0
      have hka5 := (Keeps.refl Non x4).alloc (.cells #[.int .i64 d] 3)
      have HKa5 := hide hka5
      clear C0 hka5
      go_wp2_with fail
      refine C5.out.mono ?_
      rintro e x5 ⟨rfl, hk5⟩
      replace HR := hide (HR.out.non (HKa5.out.then hk5))
      replace HK := hide (HK.out.then (HKa5.out.then hk5))
      clear hk5 HKa5 C5
      have C0 := only_no (some ⟨B, 0, none⟩) N N next (some ⟨x5.heap.size, 0, none⟩) 2 2 [0, d] 2 (x5.alloc (.cells #[.int .i64 0, .int .i64 d] 3)) (HR.out.non ((Keeps.refl Non x5).alloc _)) (ints_laid x5 [0, d] rfl (by simp)) (wrongE_2 HC.out (d := d) (by simp) HD.out.1) (by decide)
      have C6 := hide C0
      have hka6 := (Keeps.refl Non x5).alloc (.cells #[.int .i64 0, .int .i64 d] 3)
      have HKa6 := hide hka6
      clear C0 hka6
      go_wp2_with fail
      refine C6.out.mono ?_
      rintro e x6 ⟨rfl, hk6⟩
      replace HR := hide (HR.out.non (HKa6.out.then hk6))
      replace HK := hide (HK.out.then (HKa6.out.then hk6))
      clear hk6 HKa6 C6
      have CC := hide (copied_own (some ⟨B, 0, none⟩) N N next x6 HR.out (by omega) (fun i => by have := HSh.out i; omega))
      go_wp2_with fail
      refine CC.out.mono ?_
      rintro e y0 ⟨v, rfl, hcp⟩
      obtain ⟨g, cap9, S9, rest, rfl, hg, hgc, hcat⟩ := hcp.at (by rw [HNl.out]; omega)
      have hky : Keeps Non x6 y0 := by obtain ⟨_, _, _, hh⟩ := hcp; exact hh
      rw [HNl.out] at hgc ⊢
      obtain ⟨base, hbase⟩ : ∃ b, x6.heap.size = b := ⟨_, rfl⟩
      have hbw : W1.heap.size ≤ base := by rw [← hbase]; exact HK.out.size
      rw [hbase] at hcat hg
      have HCt := hide hcat
      have HGb : Hid (base ≤ g) := hg
      have HKy := hide hky
      replace HK := hide (HK.out.then hky)
      have hby : base ≤ y0.heap.size := by rw [← hbase]; exact hky.size
      clear hcp hg hcat hky hbase CC
      obtain ⟨i, hiN⟩ : ∃ i : Nat, at' % (N : Int) = (i : Int) := ⟨(at' % (N : Int)).toNat, by have := Int.emod_nonneg at' (b := (N : Int)) (by omega); omega⟩
      have hin : i < N := by have := Int.emod_lt_of_pos at' (b := (N : Int)) (by omega); omega
      have r1 : at'.tmod (N : Int) = (i : Int) := by rw [Int.tmod_eq_emod_of_nonneg (by omega), hiN]
      have r2 : IntKind.i64.wrap at' = at' := IntWalk.i64_in _ (by omega)
      have r3 : ¬ N = 0 := by omega
      have r4 : ¬ (N : Int) = 0 := by omega
      obtain ⟨u, hu, ho⟩ := HCt.out.kids.row i (by rw [HNl.out]; exact hin)
      have hsh := HSh.out i
      obtain ⟨ys, hys⟩ : ∃ ys, next.getD i [] = ys := ⟨_, rfl⟩
      have Hbad : Hid (¬ checkB (next.set i (ys ++ [d])) = true) := by
        have h := set_bad (next := next) (i := i) (by rw [HNl.out]; exact hin) HD.out.1
        rw [hys] at h
        exact h
      rw [hys] at ho hsh
      obtain ⟨q, hq⟩ : ∃ q, ys.length = q := ⟨_, rfl⟩
      rw [hq] at ho hsh
      have HQ := hide hq
      have HO := hide ho
      have HU := hide hu
      have cb : y0.cell? ⟨g, i, none⟩ = some u := by
        rw [HCt.out.blk.cell, List.getElem?_append_left (by rw [HCt.out.len, HNl.out]; exact hin)]
        exact hu
      have fb := HCt.out.blk.free i none
      have lb := HCt.out.blk.lt
      obtain ⟨va, vc, rfl⟩ := owns_slice ho
      have i0' : (0 : Int) ≤ (i : Int) := by omega
      have i1' : (i : Int) < (N : Int) := by omega
      have HN5 : Hid (∀ v' w5, w5.ownsRow base 3 1 v' (q + 1) ((ys.map (Value.int .i64)) ++ [.int .i64 d]) → (y0.alloc (.cells #[.int .i64 d] 3)).grownBy w5 (Value.slice va q vc).ownBlock → (v'.ownBlock = (Value.slice va q vc).ownBlock ∨ v'.ownBlock = some (y0.alloc (.cells #[.int .i64 d] 3)).heap.size) →
          Hid (Rows (w5.setCell ⟨g, i, none⟩ v') (some ⟨g, 0, none⟩) N (next.set i (ys ++ [d]))) ∧ Hid (Keeps (fun j => base ≤ j) y0 (w5.setCell ⟨g, i, none⟩ v')) ∧ w5.cell? ⟨g, i, none⟩ = some (.slice va q vc) ∧ w5.frozen? ⟨g, i, none⟩ = false ∧ g < w5.heap.size) := fun v' w5 hown hgrow hat => by
        have hgB : some g ≠ (Value.slice va q vc).ownBlock := fun e => KidsO.ne HCt.out (by rw [HNl.out]; exact hin) HU.out g e.symm rfl
        refine ⟨?_, ?_, ?_, ?_, ?_⟩
        · have h := HCt.out.turn (by rw [HNl.out]; omega) (fun j => by have := HSh.out j; omega) (i := i) (by rw [HNl.out]; exact hin) HU.out ((Keeps.refl Non y0).alloc (.cells #[.int .i64 d] 3)) (ys := ys ++ [d]) (v' := v') (w5 := w5) (by rw [List.length_append, HQ.out]; simp; omega) (by rw [List.length_append, List.map_append, HQ.out]; exact hown) hgrow (fun b hb => by
            rcases hat with e | e
            · rw [e] at hb
              exact KidsO.ne HCt.out (by rw [HNl.out]; exact hin) HU.out b hb
            · rw [e] at hb
              cases hb
              simp
              omega)
          rw [HNl.out] at h
          exact h
        · exact (keeps_grown ((Keeps.refl _ y0).alloc _) hgrow (fun b hb => .inl (own_ge HO.out b hb))).set (.inl HGb.out) _
        · exact (World.cell?_of_block (w := y0.alloc (.cells #[.int .i64 d] 3)) (hgrow.block g (by simp; omega) hgB)).trans ((((Keeps.refl Non y0).alloc (.cells #[.int .i64 d] 3)).cell (p := ⟨g, i, none⟩) lb (fun x => x)).trans cb)
        · exact (World.frozen?_of_block (w := y0.alloc (.cells #[.int .i64 d] 3)) (hgrow.block g (by simp; omega) hgB)).trans ((((Keeps.refl Non y0).alloc (.cells #[.int .i64 d] 3)).frozen (p := ⟨g, i, none⟩) lb (fun x => x)).trans fb)
        · have := hgrow.size; simp at this; omega
      clear hiN hu ho hys hq
      go_wp2_with (at_builtin; refine wpList_append_own_at _ rfl _ _ 25 rfl base 3 i0 (.int .i64 0) 1 8 Try.underlying25 hi hz0 hz1 hz2 rfl (by decide) _ q (ys.map (Value.int .i64)) rfl (owns_keeps HO.out ((Keeps.refl Non _).alloc _) (fun _ _ x => x)) ⟨y0.heap.size, 0, none⟩ 1 1 [.int .i64 d] rfl rfl (cell_one_new _ _ _) (by intro u hu; simp at hu; subst hu; rfl) (by unfold maxLen; omega) (by omega) (by simp; omega) ?_; intro v' w5 hown hgrow hnil hat; obtain ⟨HRn, HKn, cb5, fb5, lb5⟩ := HN5.out v' w5 hown hgrow hat; obtain ⟨a5, c5, rfl⟩ := owns_slice hown; clear hown hgrow hnil hat)
      replace HK : Hid (Keeps Non W1 (w5.setCell ⟨g, i, none⟩ (.slice a5 (q + 1) c5))) := HK.out.trans HKn.out (fun j hj h => by omega)
      obtain ⟨nx2, hnx2⟩ : ∃ nx2, next.set i (ys ++ [d]) = nx2 := ⟨_, rfl⟩
      obtain ⟨V, hV⟩ : ∃ V, w5.setCell ⟨g, i, none⟩ (.slice a5 (q + 1) c5) = V := ⟨_, rfl⟩
      rw [hnx2] at HRn Hbad
      rw [hV] at HRn HK
      try rw [hV]
      clear hnx2 hV HKn cb5 fb5 lb5 cb fb lb cd HR HN5 HO HU HCt HKy HGb
      have C7 := hide (from_no (some ⟨g, 0, none⟩) N cap9 nx2 d 70 V HRn.out (wrongE_70 _ Hbad.out) (by decide))
      go_wp2_with fail
      refine C7.out.mono ?_
      rintro e x7 ⟨rfl, hk7⟩
      replace HRn := hide (HRn.out.non hk7)
      replace HK := hide (HK.out.then hk7)
      clear hk7 C7
      have C8 := hide (back_no (some ⟨g, 0, none⟩) N cap9 nx2 x7 HRn.out Hbad.out)
      go_wp2_with fail
      refine C8.out.mono ?_
      rintro e x8 ⟨rfl, hk8⟩
      replace HRn := hide (HRn.out.non hk8)
      replace HK := hide (HK.out.then hk8)
      clear hk8 C8
      have C9 := hide (rings_no (some ⟨g, 0, none⟩) N cap9 nx2 x8 HRn.out Hbad.out)
      go_wp2_with fail
      refine C9.out.mono ?_
      rintro e x9 ⟨rfl, hk9⟩
      replace HRn := hide (HRn.out.non hk9)
      replace HK := hide (HK.out.then hk9)
      clear hk9 C9
      have C0 := closure_no (some ⟨g, 0, none⟩) N cap9 nx2 (some ⟨x9.heap.size, 0, none⟩) 1 1 [d] 70 (x9.alloc (.cells #[.int .i64 d] 3)) (HRn.out.non ((Keeps.refl Non x9).alloc _)) (ints_laid x9 [d] rfl (by simp)) (wrongE_70 _ Hbad.out) (by decide)
      have C10 := hide C0
      have hka10 := (Keeps.refl Non x9).alloc (.cells #[.int .i64 d] 3)
      have HKa10 := hide hka10
      clear C0 hka10
      go_wp2_with fail
      refine C10.out.mono ?_
      rintro e x10 ⟨rfl, hk10⟩
      replace HRn := hide (HRn.out.non (HKa10.out.then hk10))
      replace HK := hide (HK.out.then (HKa10.out.then hk10))
      clear hk10 HKa10 C10
      have hck := check_l (some ⟨g, 0, none⟩) N cap9 nx2 x10 HRn.out
      rw [checkE_bad Hbad.out] at hck
      have C11 := hide (hck)
      go_wp2_with fail
      refine C11.out.mono ?_
      rintro e x11 ⟨rfl, hk11⟩
      replace HRn := hide (HRn.out.non hk11)
      replace HK := hide (HK.out.then hk11)
      clear hk11 C11
      clear hck
      go_wp2_with fail
      go_roundw
      case rel => exact ⟨k + 1, by omega, by go_num, HK.out⟩
      case measure => simp [intOf]; omega
    · have hk2 : k = 2 := by omega
      subst hk2
      have hck := check_l (some ⟨B, 0, none⟩) N N next wr HR.out
      rw [show checkE next = 0 from if_pos HC.out] at hck
      have HCk := hide hck
      clear hck hym hyx
      go_wp2_with fail
      refine HCk.out.mono ?_
      rintro e q1 ⟨rfl, hkq⟩
      have HK2 := hide (HK.out.then hkq)
      have HAw := hide (awake_l q1)
      clear hkq
      go_wp2_with fail
      refine HAw.out.mono ?_
      rintro e q2 ⟨rfl, hkq⟩
      go_wp2_with fail
      go_ret
      exact ⟨rfl, HK0.out.then (HK2.out.then hkq)⟩
end Go.Proofs.Ythpdflpkkiabhaa
