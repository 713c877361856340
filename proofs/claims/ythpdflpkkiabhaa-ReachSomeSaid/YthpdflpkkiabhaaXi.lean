/-
  The reference: Closure. No condition.
-/
import Derived.Test.YthpdflpkkiabhaaXh
import Derived.Test.YthpdflpkkiabhaaCp
namespace Go.Proofs.Ythpdflpkkiabhaa
open Go.RowKit
attribute [local go_sem] onto_cell onto_frozen
set_option linter.unusedVariables false
set_option maxRecDepth 100000 in
set_option maxHeartbeats 4000000 in
theorem refclosure_l (a b : Option Addr) (n cap m cap2 : Nat) (next : List (List Int)) (l : List Int) (w : World) (h : Rows w a n next) (h2 : Ints w b m l) (hc : checkB next = true) (hl : ∀ x ∈ l, 0 ≤ x ∧ x < (n : Int)) (hn : n ≤ 25) (hm : m ≤ 1000) (hsh : ∀ i, (next.getD i []).length ≤ 200) :
    Calls Try.prog 61 #[.slice a n cap, .slice b m cap2] w fun e w' => ∃ v, e = .returned v ∧ OwnI w w' v (closureL next n l) := by
  obtain ⟨i0, hi, hz0, hz1, hz2⟩ := info3_parts
  have HX := hide h
  have HY := hide h2
  have HL := hide hl
  have HC := hide hc
  have HSh := hide hsh
  have HLe := hide h2.len
  have HWl := hide (fun x : Int => (show (waysL next n x).length = n from goW_length _ _))
  have hcl := closure_cloR hc (l := l) (by rw [h.len]; exact hl)
  rw [h.len] at hcl
  have HCl := hide hcl
  have hms := make25 w n (by omega)
  obtain ⟨R, hR⟩ : ∃ B, w.heap.size = B := ⟨_, rfl⟩
  have HRs := hide hR
  have HB0 : Hid (Blk (w.alloc (.cells (Array.replicate n (.int .i64 0)) 3)) R ((List.replicate n (0 : Int)).map (Value.int .i64)) 3) := by
    rw [List.map_replicate, ← List.toArray_replicate]
    exact Blk.newAt w (List.replicate n (.int .i64 0)) 3 hR.symm
  have HK0 := hide ((Keeps.refl Non w).alloc (.cells (Array.replicate n (.int .i64 0)) 3))
  have HF0 : Hid (∀ p, p < n → (List.replicate n (0 : Int)).getD p 0 = cloI next n l 0 p) := fun p hp => by
    rw [getD_num (by simpa using hp), List.getElem_replicate, cloI, if_neg (by rw [cloB_zero]; simp)]
  clear h h2 hc hl hsh hcl hR
  go_enter Try.func61, Try.ntmps61
  go_wp2_with fail
  rw [HRs.out]
  obtain ⟨W0, hW0⟩ : ∃ W, w.alloc (.cells (Array.replicate n (.int .i64 0)) 3) = W := ⟨_, rfl⟩
  rw [hW0] at HB0 HK0 hms
  try rw [hW0]
  clear hW0 hms
  go_wp2_with fail
  go_loopw [6] (fun t wr => ∃ (i : Nat) (F : List Int), i ≤ m ∧ t = .int .i64 i ∧ F.length = n ∧ Hid (∀ p, p < n → F.getD p 0 = cloI next n l i p) ∧ Hid (Blk wr R (F.map (Value.int .i64)) 3) ∧ Hid (Keeps Non w wr)) (fun t _ => m - (intOf t).toNat)
  case atStart => exact ⟨0, _, by omega, rfl, by simp, HF0.out, HB0.out, HK0.out⟩
  case round =>
    clear HF0 HB0 HK0
    obtain ⟨i, F, hi2, rfl, hFl, HF, HB, HK⟩ := hrel
    by_cases hlt : i < m
    · obtain ⟨b1, o1, hb1, lb1, hc1⟩ := (HY.out.non HK.out).at (by omega)
      subst hb1
      have ci' := hc1 i hlt
      have hmem : l.getD i 0 ∈ l := by rw [getD_num (by rw [HLe.out]; exact hlt)]; exact List.getElem_mem _
      have hcs := fun p => cloB_succ (next := next) (n := n) (l := l) (i := i) (p := p) (by rw [HLe.out]; exact hlt) rfl
      obtain ⟨x, hx⟩ : ∃ x, l.getD i 0 = x := ⟨_, rfl⟩
      rw [hx] at ci' hmem hcs
      have hxb := HL.out x hmem
      obtain ⟨pi, rfl⟩ := Int.eq_ofNat_of_zero_le hxb.1
      have hpn : pi < n := by omega
      have HW := hide (refways_l a n cap next pi wr (HX.out.non HK.out) HC.out hpn hn (fun i => by have := HSh.out i; omega))
      have hwl := HWl.out (pi : Int)
      obtain ⟨Wx, hWx⟩ : ∃ W, waysL next n (pi : Int) = W := ⟨_, rfl⟩
      rw [hWx] at HW hwl hcs
      have HCs := hide hcs
      have HWl2 := hide hwl
      have i0' : (0 : Int) ≤ (i : Int) := by omega
      have i1 : (i : Int) < (m : Int) := by omega
      clear hc1 hmem hcs hx hWx hwl hxb
      go_wp2_with fail
      refine HW.out.mono ?_
      rintro e w4 ⟨v, rfl, bS, rfl, hbS, hBS, hk4⟩
      rw [HWl2.out]
      have HBS := hide hBS
      have HB4 := hide (HB.out.non hk4)
      have HK4 := hide (HK.out.then hk4)
      have hbR : bS ≠ R := by have := HB.out.lt; omega
      have HF4 : Hid (∀ p, p < n → F.getD p 0 = if p < 0 then cloI next n l (i + 1) p else cloI next n l i p) := fun p hp => by rw [if_neg (by omega)]; exact HF.out p hp
      have HFl := hide hFl
      clear hBS hk4 hbS HW HB HK HF hFl ci'
      go_wp2_with fail
      go_loopw [8] (fun t wx => ∃ (p : Nat) (F2 : List Int), p ≤ n ∧ t = .int .i64 p ∧ F2.length = n ∧ Hid (∀ j, j < n → F2.getD j 0 = if j < p then cloI next n l (i + 1) j else cloI next n l i j) ∧ Hid (Blk wx R (F2.map (Value.int .i64)) 3) ∧ Hid (Blk wx bS (Wx.map (Value.int .i64)) 3) ∧ Hid (Keeps Non w wx)) (fun t _ => n - (intOf t).toNat)
      case atStart => exact ⟨0, F, by omega, rfl, HFl.out, HF4.out, HB4.out, HBS.out, HK4.out⟩
      case round =>
        clear HFl HF4 HB4 HBS HK4
        obtain ⟨p, F2, hp, rfl, hFl, HF, HB, HBS, HK⟩ := hrel
        by_cases hpl : p < n
        · have cS := HBS.out.atI (t := p) (by rw [HWl2.out]; exact hpl)
          have lS := HBS.out.lt
          have cB := HB.out.atI (t := p) (by omega)
          have fB := HB.out.free p none
          have lB := HB.out.lt
          have hcs := HCs.out p
          obtain ⟨z, hz⟩ : ∃ z, Wx.getD p 0 = z := ⟨_, rfl⟩
          rw [hz] at cS hcs
          have p0 : (0 : Int) ≤ (p : Int) := by omega
          have p1 : (p : Int) < (n : Int) := by omega
          by_cases hz0 : 0 ≤ z
          · have HF2 : Hid (∀ j, j < n → (F2.set p 1).getD j 0 = if j < p + 1 then cloI next n l (i + 1) j else cloI next n l i j) := fun j hj => by
              rw [getD_set (by omega)]
              by_cases hjp : p = j
              · subst hjp
                rw [if_pos rfl, if_pos (by omega), cloI, if_pos]
                rw [hcs]
                simp [hz0]
              · rw [if_neg hjp, HF.out j hj]
                by_cases h1 : j < p
                · rw [if_pos h1, if_pos (by omega)]
                · rw [if_neg h1, if_neg (by omega)]
            clear hcs hz
            go_wp2_with fail
            go_roundw
            case rel => exact ⟨p + 1, F2.set p 1, by omega, by go_num, by simp [hFl], HF2.out, HB.out.putI p 1, HBS.out.other hbR _, HK.out.set (b := R) (.inr (by have := HRs.out; omega)) _⟩
            case measure => simp [intOf]; omega
          · have HF2 : Hid (∀ j, j < n → F2.getD j 0 = if j < p + 1 then cloI next n l (i + 1) j else cloI next n l i j) := fun j hj => by
              rw [HF.out j hj]
              by_cases hjp : p = j
              · subst hjp
                rw [if_neg (by omega), if_pos (by omega)]
                unfold cloI
                rw [hcs]
                simp [hz0]
              · by_cases h1 : j < p
                · rw [if_pos h1, if_pos (by omega)]
                · rw [if_neg h1, if_neg (by omega)]
            clear hcs hz
            go_wp2_with fail
            go_roundw
            case rel => exact ⟨p + 1, F2, by omega, by go_num, hFl, HF2.out, HB.out, HBS.out, HK.out⟩
            case measure => simp [intOf]; omega
        · have hpp : p = n := by omega
          subst hpp
          have y8 : ¬ (p : Int) < (p : Int) := by omega
          have HF2 : Hid (∀ j, j < p → F2.getD j 0 = cloI next p l (i + 1) j) := fun j hj => by
            have := HF.out j hj
            rwa [if_pos hj] at this
          go_wp2_with fail
          go_roundw
          case rel => exact ⟨i + 1, F2, by omega, by go_num, hFl, HF2.out, HB.out, HK.out⟩
          case measure => simp [intOf]; omega
    · have hii : i = m := by omega
      subst hii
      have y8 : ¬ (i : Int) < (i : Int) := by omega
      obtain ⟨w3, hw3⟩ : ∃ w3, w3 = wr := ⟨_, rfl⟩
      subst hw3
      have HFl := hide hFl
      clear hFl
      go_wp2_with fail
      go_loopw [10, 9] (fun t u wx => ∃ (p : Nat), p ≤ n ∧ t = .int .i64 p ∧ Hid (wx.ownsRow w3.heap.size 3 1 u (cloR next n l p).length ((cloR next n l p).map (Value.int .i64))) ∧ Hid (Keeps Non w3 wx)) (fun t _ _ => n - (intOf t).toNat)
      case atStart => exact ⟨0, by omega, rfl, World.ownsRow_nil _ _ _ _, Keeps.refl _ _⟩
      case round =>
        obtain ⟨p, hp, rfl, HU, HKx⟩ := hrel
        have hul := cloR_length next n l p
        obtain ⟨ys, hys⟩ : ∃ y, cloR next n l p = y := ⟨_, rfl⟩
        obtain ⟨yl, hyl⟩ : ∃ y, ys.length = y := ⟨_, rfl⟩
        rw [hys, hyl] at HU hul
        have HYs := hide hys
        have HYl := hide hyl
        clear hys hyl
        obtain ⟨a9, c9, hv9⟩ := owns_slice HU.out
        subst hv9
        by_cases hpl : p < n
        · have cB := (HB.out.non HKx.out).atI (t := p) (by rw [HFl.out]; exact hpl)
          have lB := (HB.out.non HKx.out).lt
          rw [HF.out p hpl] at cB
          have p0 : (0 : Int) ≤ (p : Int) := by omega
          have p1 : (p : Int) < (n : Int) := by omega
          by_cases hcb : cloB next n l l.length p = true
          · have hone : cloI next n l i p = 1 := by rw [cloI, if_pos (by rw [← HLe.out]; exact hcb)]
            rw [hone] at cB
            have HE := hide (cloR_yes hcb)
            rw [HYs.out] at HE
            clear hone hcb
            go_wp2_with (at_builtin; refine wpList_append_own_at _ rfl _ _ 25 rfl w3.heap.size 3 i0 (.int .i64 0) 1 8 Try.underlying25 hi hz0 hz1 hz2 rfl (by decide) (.slice a9 yl c9) yl (ys.map (Value.int .i64)) rfl (owns_keeps HU.out ((Keeps.refl Non _).alloc _) (fun _ _ x => x)) ⟨wr.heap.size, 0, none⟩ 1 1 [.int .i64 (p : Int)] rfl ?qc1 ?qc2 ?qc3 ?qc4 ?qc5 ?qc6 ?_)
            try (case qc1 => rfl)
            try (case qc2 => exact cell_one_new _ _ _)
            case qc3 => first | rfl | (intro u hu; simp at hu; subst hu; rfl)
            case qc4 => unfold maxLen; omega
            case qc5 => omega
            case qc6 => (try simp); have := HKx.out.size; omega
            intro v' w5 hown hgrow hnil2 hat
            have HO5 := hide hown
            have HG5 := hide (keeps_grown (Keeps.refl (fun b => some b = Value.ownBlock (.slice a9 yl c9)) _) hgrow (fun g hg => .inl hg.symm))
            have HLt := hide (owns_here HU.out)
            clear hown hgrow hnil2 hat
            go_wp2_with fail
            go_roundw
            case rel => exact ⟨p + 1, by omega, by go_num, by rw [HE.out, List.length_append, List.map_append, HYl.out]; exact HO5.out, (HKx.out.alloc _).trans HG5.out (fun i hi e => by have := (HLt.out i e.symm).1; omega)⟩
            case measure => simp [intOf]; omega
          · have hone : cloI next n l i p = 0 := by rw [cloI, if_neg (by rw [← HLe.out]; exact hcb)]
            rw [hone] at cB
            have HE := hide (cloR_no hcb)
            rw [HYs.out] at HE
            clear hone hcb
            go_wp2_with fail
            go_roundw
            case rel => exact ⟨p + 1, by omega, by go_num, by rw [HE.out, HYl.out]; exact HU.out, HKx.out⟩
            case measure => simp [intOf]; omega
        · have hpp : p = n := by omega
          subst hpp
          have y9 : ¬ (p : Int) < (p : Int) := by omega
          go_wp2_with fail
          try rw [Exit.noGoto_ret]
          go_ret
          exact ⟨_, rfl, by rw [HCl.out, HYs.out, HYl.out]; exact owns_base HU.out HK.out.size, HK.out.then HKx.out⟩
end Go.Proofs.Ythpdflpkkiabhaa
