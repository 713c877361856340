/-
  Walks over layer 1: All. No condition.
-/
import Derived.Test.YtoogopcaieodoaaRs
namespace Go.Proofs.Ytoogopcaieodoaa
open Go.RowKit Go.Shelf
attribute [local go_sem] onto_cell onto_frozen
set_option linter.unusedVariables false
def nK (k : Nat) : Mk := ⟨if 0 < k then 18446744073709551615 else 0, if 1 < k then 18446744073709551615 else 0, if 2 < k then 18446744073709551615 else 0, if 3 < k then 18446744073709551615 else 0⟩
theorem not1_zero (w : World) : Calls Try.prog 51 #[.int .u64 0, .int .u64 0] w fun e w' => e = .returned (.int .u64 18446744073709551615) ∧ w = w' := by
  go_enter Try.func51, Try.ntmps51
  go_wp2_with fail
  go_ret
  exact ⟨by rfl, rfl⟩
set_option maxRecDepth 100000 in
set_option maxHeartbeats 4000000 in
theorem eachNot_zero (w : World) :
    Calls Try.prog 40 #[.agg #[.int .u64 0, .int .u64 0, .int .u64 0, .int .u64 0], .agg #[.int .u64 0, .int .u64 0, .int .u64 0, .int .u64 0], .func (.func 51) #[] #[]] w fun e w' =>
      e = .returned (.agg #[.int .u64 18446744073709551615, .int .u64 18446744073709551615, .int .u64 18446744073709551615, .int .u64 18446744073709551615]) ∧ Keeps Non w w' := by
  obtain ⟨n, hn⟩ : ∃ n, w.heap.size = n := ⟨_, rfl⟩
  have HA : Hid (Blk ((((w.alloc (.cells #[.int .u64 0, .int .u64 0, .int .u64 0, .int .u64 0] 24)).alloc (.cells #[.int .u64 0, .int .u64 0, .int .u64 0, .int .u64 0] 24)).alloc (.cells #[.int .u64 0, .int .u64 0, .int .u64 0, .int .u64 0] 24)).alloc (.cells #[.int .u64 0, .int .u64 0, .int .u64 0, .int .u64 0] 24)) n (wl ⟨0, 0, 0, 0⟩) 24) :=
    (((Blk.newAt w (wl ⟨0, 0, 0, 0⟩) 24 hn.symm).alloc _).alloc _).alloc _
  have HB : Hid (Blk ((((w.alloc (.cells #[.int .u64 0, .int .u64 0, .int .u64 0, .int .u64 0] 24)).alloc (.cells #[.int .u64 0, .int .u64 0, .int .u64 0, .int .u64 0] 24)).alloc (.cells #[.int .u64 0, .int .u64 0, .int .u64 0, .int .u64 0] 24)).alloc (.cells #[.int .u64 0, .int .u64 0, .int .u64 0, .int .u64 0] 24)) (n + 1) (wl ⟨0, 0, 0, 0⟩) 24) :=
    ((Blk.newAt (w.alloc (.cells #[.int .u64 0, .int .u64 0, .int .u64 0, .int .u64 0] 24)) (wl ⟨0, 0, 0, 0⟩) 24 (by simp [hn])).alloc _).alloc _
  have HR : Hid (Blk ((((w.alloc (.cells #[.int .u64 0, .int .u64 0, .int .u64 0, .int .u64 0] 24)).alloc (.cells #[.int .u64 0, .int .u64 0, .int .u64 0, .int .u64 0] 24)).alloc (.cells #[.int .u64 0, .int .u64 0, .int .u64 0, .int .u64 0] 24)).alloc (.cells #[.int .u64 0, .int .u64 0, .int .u64 0, .int .u64 0] 24)) (n + 2) (wl ⟨0, 0, 0, 0⟩) 24) :=
    (Blk.newAt ((w.alloc (.cells #[.int .u64 0, .int .u64 0, .int .u64 0, .int .u64 0] 24)).alloc (.cells #[.int .u64 0, .int .u64 0, .int .u64 0, .int .u64 0] 24)) (wl ⟨0, 0, 0, 0⟩) 24 (by simp [hn])).alloc _
  have HO : Hid (Blk ((((w.alloc (.cells #[.int .u64 0, .int .u64 0, .int .u64 0, .int .u64 0] 24)).alloc (.cells #[.int .u64 0, .int .u64 0, .int .u64 0, .int .u64 0] 24)).alloc (.cells #[.int .u64 0, .int .u64 0, .int .u64 0, .int .u64 0] 24)).alloc (.cells #[.int .u64 0, .int .u64 0, .int .u64 0, .int .u64 0] 24)) (n + 3) (wl ⟨0, 0, 0, 0⟩) 24) :=
    Blk.newAt (((w.alloc (.cells #[.int .u64 0, .int .u64 0, .int .u64 0, .int .u64 0] 24)).alloc (.cells #[.int .u64 0, .int .u64 0, .int .u64 0, .int .u64 0] 24)).alloc (.cells #[.int .u64 0, .int .u64 0, .int .u64 0, .int .u64 0] 24)) (wl ⟨0, 0, 0, 0⟩) 24 (by simp [hn])
  have HK := hide (((((Keeps.refl Non w).alloc (.cells #[.int .u64 0, .int .u64 0, .int .u64 0, .int .u64 0] 24)).alloc (.cells #[.int .u64 0, .int .u64 0, .int .u64 0, .int .u64 0] 24)).alloc (.cells #[.int .u64 0, .int .u64 0, .int .u64 0, .int .u64 0] 24)).alloc (.cells #[.int .u64 0, .int .u64 0, .int .u64 0, .int .u64 0] 24))
  have HN := hide hn
  clear hn
  go_enter Try.func40, Try.ntmps40
  go_wp2_with fail
  rw [HN.out]
  go_loopw [9] (fun i wr => ∃ (k : Nat) (o : Mk), k ≤ 4 ∧ Hid (o = nK k) ∧ i = .int .i64 k ∧ Hid (Keeps Non w wr) ∧ Hid (Blk wr n (wl ⟨0, 0, 0, 0⟩) 24) ∧ Hid (Blk wr (n + 1) (wl ⟨0, 0, 0, 0⟩) 24) ∧ Hid (Blk wr (n + 2) (wl ⟨0, 0, 0, 0⟩) 24) ∧ Hid (Blk wr (n + 3) (wl o) 24)) (fun i _ => 4 - (intOf i).toNat)
  case atStart => exact ⟨0, ⟨0, 0, 0, 0⟩, by omega, rfl, rfl, HK.out, HA.out, HB.out, HR.out, HO.out⟩
  case round =>
    clear HK HA HB HR HO
    obtain ⟨k, o, hk, hoK, rfl, HK, HA, HB, HR, HO⟩ := hrel
    have ln := HN.out
    have la := HA.out.lt
    have lb := HB.out.lt
    have lo := HO.out.lt
    have a0 : wr.cell? ⟨n, 0, none⟩ = some (.int .u64 0) := HA.out.cell 0
    have a1 : wr.cell? ⟨n, 1, none⟩ = some (.int .u64 0) := HA.out.cell 1
    have a2 : wr.cell? ⟨n, 2, none⟩ = some (.int .u64 0) := HA.out.cell 2
    have a3 : wr.cell? ⟨n, 3, none⟩ = some (.int .u64 0) := HA.out.cell 3
    have b0 : wr.cell? ⟨n + 1, 0, none⟩ = some (.int .u64 0) := HB.out.cell 0
    have b1 : wr.cell? ⟨n + 1, 1, none⟩ = some (.int .u64 0) := HB.out.cell 1
    have b2 : wr.cell? ⟨n + 1, 2, none⟩ = some (.int .u64 0) := HB.out.cell 2
    have b3 : wr.cell? ⟨n + 1, 3, none⟩ = some (.int .u64 0) := HB.out.cell 3
    have o0 : wr.cell? ⟨n + 3, 0, none⟩ = some (.int .u64 o.w0) := HO.out.cell 0
    have o1 : wr.cell? ⟨n + 3, 1, none⟩ = some (.int .u64 o.w1) := HO.out.cell 1
    have o2 : wr.cell? ⟨n + 3, 2, none⟩ = some (.int .u64 o.w2) := HO.out.cell 2
    have o3 : wr.cell? ⟨n + 3, 3, none⟩ = some (.int .u64 o.w3) := HO.out.cell 3
    have f0 := HO.out.free 0 none
    have f1 := HO.out.free 1 none
    have f2 := HO.out.free 2 none
    have f3 := HO.out.free 3 none
    clear ln
    obtain rfl | rfl | rfl | rfl | rfl : k = 0 ∨ k = 1 ∨ k = 2 ∨ k = 3 ∨ k = 4 := by omega
    · go_wp2_with fail
      go_region_with (first | (go_at_call 51; refine (not1_zero _).mono ?_; rintro e _ ⟨rfl, rfl⟩))
      all_goals
        go_wp2_with fail
        go_roundw
        case rel => exact ⟨1, ⟨18446744073709551615, o.w1, o.w2, o.w3⟩, by omega, by show _ = _; rw [hoK.out]; rfl, by go_num, (HK.out.set (b := n + 3) (i := 0) (.inr (by show _ ≤ n + 3; have := HN.out; omega)) _).drew, (HA.out.other (by show n ≠ n + 3; omega) _).drew, (HB.out.other (by show n + 1 ≠ n + 3; omega) _).drew, (HR.out.other (by show n + 2 ≠ n + 3; omega) _).drew, (HO.out.store 0 _).drew⟩
        case measure => simp [intOf]
    · go_wp2_with fail
      go_region_with (first | (go_at_call 51; refine (not1_zero _).mono ?_; rintro e _ ⟨rfl, rfl⟩))
      all_goals
        go_wp2_with fail
        go_roundw
        case rel => exact ⟨2, ⟨o.w0, 18446744073709551615, o.w2, o.w3⟩, by omega, by show _ = _; rw [hoK.out]; rfl, by go_num, (HK.out.set (b := n + 3) (i := 1) (.inr (by show _ ≤ n + 3; have := HN.out; omega)) _).drew, (HA.out.other (by show n ≠ n + 3; omega) _).drew, (HB.out.other (by show n + 1 ≠ n + 3; omega) _).drew, (HR.out.other (by show n + 2 ≠ n + 3; omega) _).drew, (HO.out.store 1 _).drew⟩
        case measure => simp [intOf]
    · go_wp2_with fail
      go_region_with (first | (go_at_call 51; refine (not1_zero _).mono ?_; rintro e _ ⟨rfl, rfl⟩))
      all_goals
        go_wp2_with fail
        go_roundw
        case rel => exact ⟨3, ⟨o.w0, o.w1, 18446744073709551615, o.w3⟩, by omega, by show _ = _; rw [hoK.out]; rfl, by go_num, (HK.out.set (b := n + 3) (i := 2) (.inr (by show _ ≤ n + 3; have := HN.out; omega)) _).drew, (HA.out.other (by show n ≠ n + 3; omega) _).drew, (HB.out.other (by show n + 1 ≠ n + 3; omega) _).drew, (HR.out.other (by show n + 2 ≠ n + 3; omega) _).drew, (HO.out.store 2 _).drew⟩
        case measure => simp [intOf]
    · go_wp2_with fail
      go_region_with (first | (go_at_call 51; refine (not1_zero _).mono ?_; rintro e _ ⟨rfl, rfl⟩))
      all_goals
        go_wp2_with fail
        go_roundw
        case rel => exact ⟨4, ⟨o.w0, o.w1, o.w2, 18446744073709551615⟩, by omega, by show _ = _; rw [hoK.out]; rfl, by go_num, (HK.out.set (b := n + 3) (i := 3) (.inr (by show _ ≤ n + 3; have := HN.out; omega)) _).drew, (HA.out.other (by show n ≠ n + 3; omega) _).drew, (HB.out.other (by show n + 1 ≠ n + 3; omega) _).drew, (HR.out.other (by show n + 2 ≠ n + 3; omega) _).drew, (HO.out.store 3 _).drew⟩
        case measure => simp [intOf]
    · have lr := HR.out.lt
      have r0 : wr.cell? ⟨n + 2, 0, none⟩ = some (.int .u64 0) := HR.out.cell 0
      have r1 : wr.cell? ⟨n + 2, 1, none⟩ = some (.int .u64 0) := HR.out.cell 1
      have r2 : wr.cell? ⟨n + 2, 2, none⟩ = some (.int .u64 0) := HR.out.cell 2
      have r3 : wr.cell? ⟨n + 2, 3, none⟩ = some (.int .u64 0) := HR.out.cell 3
      have g0 := HR.out.free 0 none
      have g1 := HR.out.free 1 none
      have g2 := HR.out.free 2 none
      have g3 := HR.out.free 3 none
      go_wp2_with fail
      refine bodyPost_ret (v := .agg #[.int .u64 o.w0, .int .u64 o.w1, .int .u64 o.w2, .int .u64 o.w3]) (by simp [results, Try.results40, go_sem, r0, r1, r2, r3]) rfl ⟨by rw [hoK.out]; rfl, ?_⟩
      have hle : w.heap.size ≤ n + 2 := by have := HN.out; omega
      exact (((HK.out.set (.inr hle) _).set (.inr hle) _).set (.inr hle) _).set (.inr hle) _
end Go.Proofs.Ytoogopcaieodoaa
