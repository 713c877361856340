/-
  The reference: Ways. No condition.
-/
import Derived.Test.YthpdflpkkiabhaaXa
import Derived.Test.YthpdflpkkiabhaaXp
namespace Go.Proofs.Ythpdflpkkiabhaa
open Go.RowKit
attribute [local go_sem] onto_cell onto_frozen
set_option linter.unusedVariables false
/-- Numbers in a block, one put anew. -/
theorem Blk.putI {w : World} {R : Nat} {W : List Int} (h : Blk w R (W.map (Value.int .i64)) 3) (t : Nat) (x : Int) : Blk (w.setCell ⟨R, t, none⟩ (.int .i64 x)) R ((W.set t x).map (Value.int .i64)) 3 := by
  have := h.store t (.int .i64 x)
  rwa [← List.map_set] at this
theorem Blk.atI {w : World} {R : Nat} {W : List Int} (h : Blk w R (W.map (Value.int .i64)) 3) {t : Nat} (ht : t < W.length) : w.cell? ⟨R, t, none⟩ = some (.int .i64 (W.getD t 0)) := by
  rw [h.cell, List.getElem?_map, List.getElem?_eq_getElem ht, getD_num ht]
  rfl
set_option maxRecDepth 100000 in
set_option maxHeartbeats 4000000 in
theorem refways_l (a : Option Addr) (n cap : Nat) (next : List (List Int)) (st : Nat) (w : World) (h : Rows w a n next) (hc : checkB next = true) (hs : st < n) (hn : n ≤ 25) (hsh : ∀ i, (next.getD i []).length ≤ 100000) :
    Calls Try.prog 56 #[.slice a n cap, .int .i64 (st : Int)] w fun e w' => ∃ v, e = .returned v ∧ NewInts w w' v (waysL next n st) := by
  have HX := hide h
  have hlen := h.len
  have hsc := checkB_succ hc
  have hend := fun W (hW : WI next next.length (st : Int) W next.length) => hW.ways hc (by rw [hlen]; omega)
  rw [hlen] at hsc hend
  have HSc := hide hsc
  have HEn := hide hend
  have HLn := hide hlen
  have HSh := hide hsh
  clear h hc hlen hsc hend hsh
  have hms := make25 w n (by omega)
  obtain ⟨R, hR⟩ : ∃ B, w.heap.size = B := ⟨_, rfl⟩
  have HRs := hide hR
  have HB0 : Hid (Blk (w.alloc (.cells (Array.replicate n (.int .i64 0)) 3)) R ((List.replicate n (0 : Int)).map (Value.int .i64)) 3) := by
    rw [List.map_replicate, ← List.toArray_replicate]
    exact Blk.newAt w (List.replicate n (.int .i64 0)) 3 hR.symm
  have HK0 := hide ((Keeps.refl Non w).alloc (.cells (Array.replicate n (.int .i64 0)) 3))
  have s0 : (0 : Int) ≤ (st : Int) := by omega
  have s1 : (st : Int) < (n : Int) := by omega
  clear hR
  go_enter Try.func56, Try.ntmps56
  go_wp2_with fail
  rw [HRs.out]
  obtain ⟨W0, hW0⟩ : ∃ W, w.alloc (.cells (Array.replicate n (.int .i64 0)) 3) = W := ⟨_, rfl⟩
  rw [hW0] at HB0 HK0 hms
  try rw [hW0]
  clear hW0 hms
  go_wp2_with fail
  go_loopw [6] (fun t wr => ∃ (k : Nat) (W : List Int), k ≤ n ∧ t = .int .i64 k ∧ W.length = n ∧ Hid (∀ y, y < k → W.getD y 0 = -1) ∧ Hid (Blk wr R (W.map (Value.int .i64)) 3) ∧ Hid (Keeps Non w wr)) (fun t _ => n - (intOf t).toNat)
  case atStart => exact ⟨0, _, by omega, rfl, by simp, fun y hy => by omega, HB0.out, HK0.out⟩
  case round =>
    clear HB0 HK0
    obtain ⟨k, W, hk, rfl, hWl, HW, HB, HK⟩ := hrel
    by_cases hlt : k < n
    · have cB := HB.out.atI (t := k) (by omega)
      have fB := HB.out.free k none
      have lB := HB.out.lt
      have k0 : (0 : Int) ≤ (k : Int) := by omega
      have k1 : (k : Int) < (n : Int) := by omega
      have HW2 : Hid (∀ y, y < k + 1 → (W.set k (-1)).getD y 0 = -1) := fun y hy => by
        rw [getD_set (by omega)]
        split
        · rfl
        · exact HW.out y (by omega)
      go_wp2_with fail
      go_roundw
      case rel => exact ⟨k + 1, W.set k (-1), by omega, by go_num, by simp [hWl], HW2.out, HB.out.putI k (-1), HK.out.set (b := R) (.inr (by have := HRs.out; omega)) _⟩
      case measure => simp [intOf]; omega
    · have hkn : k = n := by omega
      subst hkn
      have y9 : ¬ (k : Int) < (k : Int) := by omega
      have cB := HB.out.atI (t := st) (by omega)
      have fB := HB.out.free st none
      have lB := HB.out.lt
      have HI := hide (WI.start (next := next) hWl hs HW.out)
      go_wp2_with fail
      have HB1 := hide (HB.out.putI st 0)
      have HK1 := hide (HK.out.set (b := R) (i := st) (.inr (by have := HRs.out; omega)) (.int .i64 0))
      clear cB fB lB
      go_loopw [7] (fun t wr => ∃ (far : Nat) (W : List Int), far ≤ k ∧ t = .int .i64 far ∧ Hid (WI next k st W far) ∧ Hid (Blk wr R (W.map (Value.int .i64)) 3) ∧ Hid (Keeps Non w wr)) (fun t _ => k - (intOf t).toNat)
      case atStart => exact ⟨0, _, by omega, rfl, HI.out, HB1.out, HK1.out⟩
      case round =>
        clear HB1 HK1 HI HB HK HW hWl
        obtain ⟨far, W, hf, rfl, HI, HB, HK⟩ := hrel
        by_cases hfl : far < k
        · have f0 : (far : Int) < (k : Int) := by omega
          have HM := hide HI.out.mid
          have HB1 := hide HB.out
          have HK1 := hide HK.out
          go_wp2_with fail
          go_loopw [8] (fun t wr => ∃ (i : Nat) (W : List Int), i ≤ k ∧ t = .int .i64 i ∧ Hid (WM next k st W far i 0) ∧ Hid (Blk wr R (W.map (Value.int .i64)) 3) ∧ Hid (Keeps Non w wr)) (fun t _ => k - (intOf t).toNat)
          case atStart => exact ⟨0, W, by omega, rfl, HM.out, HB1.out, HK1.out⟩
          case round =>
            clear HB1 HK1 HI HB HK HM
            obtain ⟨i, W, hi, rfl, HM, HB, HK⟩ := hrel
            have hWl := HM.out.len
            by_cases hik : i < k
            · have cB := HB.out.atI (t := i) (by omega)
              have lB := HB.out.lt
              obtain ⟨y, hy⟩ : ∃ y, W.getD i 0 = y := ⟨_, rfl⟩
              rw [hy] at cB
              have i0 : (0 : Int) ≤ (i : Int) := by omega
              have i1 : (i : Int) < (k : Int) := by omega
              by_cases hyf : y = (far : Int)
              · subst hyf
                have HF := hide hy
                obtain ⟨ln, hln⟩ : ∃ l, (next.getD i []).length = l := ⟨_, rfl⟩
                have HLl := hide hln
                have hsl := HSh.out i
                rw [hln] at hsl
                have HB1 := hide HB.out
                have HK1 := hide HK.out
                clear hln hy hWl
                go_wp2_with fail
                clear cB lB
                go_loopw [9] (fun t wr => ∃ (q : Nat) (W : List Int), q ≤ ln ∧ t = .int .i64 q ∧ Hid (WM next k st W far i q) ∧ Hid (W.getD i 0 = far) ∧ Hid (Blk wr R (W.map (Value.int .i64)) 3) ∧ Hid (Keeps Non w wr)) (fun t _ => ln - (intOf t).toNat)
                case atStart => exact ⟨0, W, by omega, rfl, HM.out, HF.out, HB1.out, HK1.out⟩
                case round =>
                  clear HB1 HK1 HB HK HM HF
                  obtain ⟨q, W, hq, rfl, HM, HF, HB, HK⟩ := hrel
                  have hWl := HM.out.len
                  obtain ⟨b2, o2, hb2, lb2, hc2⟩ := (HX.out.non HK.out).at (by omega)
                  subst hb2
                  obtain ⟨ai, ci, cr, hI⟩ := hc2 i hik
                  have hll := HLl.out
                  rw [hll] at cr hI
                  by_cases hql : q < ln
                  · obtain ⟨b3, o3, hb3, lb3, hc3⟩ := hI.at (by omega)
                    subst hb3
                    have cq := hc3 q hql
                    have hmem : (next.getD i []).getD q 0 ∈ succL next (i : Int) := by
                      unfold succL
                      rw [Int.toNat_natCast, getD_num (by omega)]
                      exact List.getElem_mem _
                    have htb := HSc.out i (by omega) _ hmem
                    obtain ⟨t, ht⟩ : ∃ t, (next.getD i []).getD q 0 = t := ⟨_, rfl⟩
                    rw [ht] at cq htb
                    obtain ⟨ti, rfl⟩ := Int.eq_ofNat_of_zero_le htb.1
                    have htk : ti < k := by omega
                    have cB := HB.out.atI (t := ti) (by omega)
                    have fB := HB.out.free ti none
                    have lB := HB.out.lt
                    obtain ⟨z, hz⟩ : ∃ z, W.getD ti 0 = z := ⟨_, rfl⟩
                    rw [hz] at cB
                    have q0 : (0 : Int) ≤ (q : Int) := by omega
                    have q1 : (q : Int) < (ln : Int) := by omega
                    have t0 : (0 : Int) ≤ (ti : Int) := by omega
                    have t1 : (ti : Int) < (k : Int) := by omega
                    have wf : IntKind.i64.wrap ((far : Int) + 1) = (far : Int) + 1 := IntWalk.i64_in _ (by omega)
                    by_cases hz0 : z < 0
                    · have HS := hide (HM.out.set hik (by omega) ht htk (by omega) HF.out)
                      clear hc2 hI hc3 hmem htb ht hz hll hWl
                      go_wp2_with fail
                      go_roundw
                      case rel => exact ⟨q + 1, W.set ti ((far : Int) + 1), by omega, by go_num, HS.out.1, HS.out.2, HB.out.putI ti _, HK.out.set (b := R) (.inr (by have := HRs.out; omega)) _⟩
                      case measure => simp [intOf]; omega
                    · have HS := hide (HM.out.have (by omega) (by rw [ht, Int.toNat_natCast]; omega))
                      clear hc2 hI hc3 hmem htb ht hz hll hWl
                      go_wp2_with fail
                      go_roundw
                      case rel => exact ⟨q + 1, W, by omega, by go_num, HS.out, HF.out, HB.out, HK.out⟩
                      case measure => simp [intOf]; omega
                  · have hqq : q = ln := by omega
                    subst hqq
                    have y8 : ¬ (q : Int) < (q : Int) := by omega
                    have HS := hide (HM.out.next (by omega))
                    clear hc2 hI hll hWl
                    go_wp2_with fail
                    go_roundw
                    case rel => exact ⟨i + 1, W, by omega, by go_num, HS.out, HB.out, HK.out⟩
                    case measure => simp [intOf]; omega
              · have g1 : (y != (far : Int)) = true := by simp [hyf]
                have HS := hide (HM.out.skip (by rw [hy]; exact hyf))
                clear hy hWl
                go_wp2_with fail
                go_roundw
                case rel => exact ⟨i + 1, W, by omega, by go_num, HS.out, HB.out, HK.out⟩
                case measure => simp [intOf]; omega
            · have hii : i = k := by omega
              subst hii
              have y8 : ¬ (i : Int) < (i : Int) := by omega
              have HS := hide (HM.out.round HSc.out (by omega))
              clear hWl
              go_wp2_with fail
              go_roundw
              case rel => exact ⟨far + 1, W, by omega, by go_num, HS.out, HB.out, HK.out⟩
              case measure => simp [intOf]; omega
        · have hff : far = k := by omega
          subst hff
          have y8 : ¬ (far : Int) < (far : Int) := by omega
          have HE := hide (HEn.out W HI.out)
          have HWl := hide HI.out.len
          go_wp2_with fail
          try rw [Exit.noGoto_ret]
          go_ret
          exact ⟨.slice (some ⟨R, 0, none⟩) far far, rfl, R, by rw [← HE.out, HWl.out], by rw [HRs.out]; exact Nat.le_refl _, by rw [← HE.out]; exact HB.out, HK.out⟩
end Go.Proofs.Ythpdflpkkiabhaa
