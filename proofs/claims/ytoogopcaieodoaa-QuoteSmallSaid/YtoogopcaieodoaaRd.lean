/-
  The reference's sets, made: Of of one byte, Words. No condition.
-/
import Derived.Test.YtoogopcaieodoaaRc
import Derived.Laws.BitsAllLaws
namespace Go.Proofs.Ytoogopcaieodoaa
open Go.RowKit Go.Shelf
attribute [local go_sem] onto_cell onto_frozen
attribute [-go_sem] loadCellsFrom
theorem keeps_setRow {S : Nat → Prop} {a w : World} (h : Keeps S a w) {g : Nat} (hg : S g ∨ a.heap.size ≤ g) (cs : Array Value) : Keeps S a (w.setRow g cs) :=
  ⟨h.os, h.tape, h.output, by simp only [World.setRow, Array.size_modify]; exact h.size, fun k hk hs => by
    have hne : g ≠ k := by
      rintro rfl
      rcases hg with x | x
      · exact hs x
      · omega
    simp only [World.setRow, Array.getElem?_modify, if_neg hne]
    exact h.block k hk hs⟩
theorem blk_setRow {w : World} {g : Nat} {xs : List Value} {t : TypeId} (h : Blk w g xs t) (ys : List Value) : Blk (w.setRow g ys.toArray) g ys t := setRow_heap w g xs.toArray ys.toArray t (0, 0) h
theorem lv60 {w : World} {b : Nat} {m : Mk} (h : Blk w b (mkL m) 60) : (loadVar 60 ⟨b, 0, none⟩).run Try.prog w = .ok (.agg (mkA m)) w :=
  run_loadVar_row w b 60 60 (mkA m) (0, 0) _ h Try.underlying60 rfl (by rw [info60]; simp [mkA, mkL_length])
theorem mkA_one (m : Mk) : (mkA m).all (·.oneCell') = true := by
  rw [Array.all_eq_true_iff_forall_mem]
  intro v hv
  simp only [mkA, mkL, List.mem_toArray, List.mem_map] at hv
  obtain ⟨c, _, rfl⟩ := hv
  rfl
/-- A set that is being made: its first numbers, nothing behind them. -/
def mkU (m : Mk) (k : Nat) : List Value := (List.range 256).map fun c => .int .i64 (if c < k then mkN m c else 0)
theorem mkU_zero (m : Mk) : mkU m 0 = List.replicate 256 (.int .i64 0) := by
  apply List.ext_getElem?
  intro i
  unfold mkU
  rw [List.getElem?_map, List.getElem?_replicate]
  by_cases h : i < 256
  · rw [List.getElem?_range h, if_pos h]
    rfl
  · rw [if_neg h, List.getElem?_eq_none (by rw [List.length_range]; omega)]
    rfl
theorem sc60 {w : World} {n : Nat} {xs : List Value} (h : Blk w n xs 60) (hx : xs.length = 256) (m : Mk) : (storeCells ⟨n, 0, none⟩ (mkA m).toList 0).run Try.prog w = .ok () (w.setRow n (mkA m)) := by
  have := run_storeCells_from (P := Try.prog) n 60 (mkA m).toList 0 xs.toArray w h (by simp [mkA, mkL_length, hx]) (fun v hv => (Array.all_eq_true_iff_forall_mem.1 (mkA_one m)) v (by simpa using hv))
  simpa using this
theorem mkU_all (m : Mk) : mkU m 256 = mkL m := by
  unfold mkU mkL
  apply List.map_congr_left
  intro c hc
  rw [if_pos (List.mem_range.1 hc)]
theorem mkU_length (m : Mk) (k : Nat) : (mkU m k).length = 256 := by simp [mkU]
theorem mkU_set (m : Mk) (k : Nat) (hk : k < 256) : (mkU m k).set k (.int .i64 (mkN m k)) = mkU m (k + 1) := by
  apply List.ext_getElem?
  intro i
  rw [List.getElem?_set]
  by_cases hi : k = i
  · subst hi
    simp [mkU, hk]
  · rw [if_neg hi]
    by_cases h2 : i < 256
    · simp only [mkU, List.getElem?_map, List.getElem?_range h2, Option.map_some]
      have : i < k ↔ i < k + 1 := by omega
      simp [this]
    · simp [mkU, h2]
theorem mkU_at (m : Mk) (k c : Nat) (h : c < 256) : ∃ v, (mkU m k)[c]? = some (.int .i64 v) := ⟨_, by simp [mkU, h]; rfl⟩
theorem mkL_q : (List.replicate 256 (Value.int .i64 0)).set 34 (.int .i64 1) = mkL qm := by kernel_rfl
set_option maxRecDepth 100000 in
set_option maxHeartbeats 4000000 in
theorem ofR_q (b cap : Nat) (w : World) (h : Blk w b [.int .u8 34] 5) :
    Calls Try.prog 32 #[.slice (some ⟨b, 0, none⟩) 1 cap] w fun e w' => e = .returned (.agg (mkA qm)) ∧ Keeps Non w w' := by
  have HH := hide h
  have hbl := h.lt
  clear h
  have hv := zero60
  obtain ⟨Z, hZ⟩ : ∃ Z : Array Value, Array.replicate 256 (.int .i64 0) = Z := ⟨_, rfl⟩
  rw [hZ] at hv
  have HZ : Hid (Z = (List.replicate 256 (Value.int .i64 0)).toArray) := by
    show _ = _
    rw [← hZ]
    rfl
  have hZ0 : ¬ Z = #[] := by
    rw [← hZ]
    intro h
    have := congrArg Array.size h
    simp at this
  clear hZ
  go_enter Try.func32, Try.ntmps32
  go_wp2_with fail
  obtain ⟨n, hn⟩ : ∃ n, w.heap.size = n := ⟨_, rfl⟩
  have HN := hide hn
  have HR : Hid (Blk ((w.alloc (.cells Z 60)).alloc (.cells Z 60)) n (List.replicate 256 (Value.int .i64 0)) 60) := by
    rw [HZ.out]
    exact (Blk.newAt w (List.replicate 256 (Value.int .i64 0)) 60 hn.symm).alloc _
  have HO : Hid (Blk ((w.alloc (.cells Z 60)).alloc (.cells Z 60)) (n + 1) (List.replicate 256 (Value.int .i64 0)) 60) := by
    rw [HZ.out]
    exact Blk.newAt (w.alloc (.cells (List.replicate 256 (Value.int .i64 0)).toArray 60)) (List.replicate 256 (Value.int .i64 0)) 60 (by simp [hn])
  have HK := hide (((Keeps.refl Non w).alloc (.cells Z 60)).alloc (.cells Z 60))
  rw [hn]
  clear hn
  go_loopw [4] (fun i wr => ∃ (k : Nat), k ≤ 1 ∧ i = .int .i64 k ∧ Hid (Keeps Non w wr) ∧ Hid (Blk wr n (List.replicate 256 (Value.int .i64 0)) 60) ∧ Hid (Blk wr (n + 1) (if k = 0 then List.replicate 256 (Value.int .i64 0) else mkL qm) 60)) (fun i _ => 1 - (intOf i).toNat)
  case atStart => exact ⟨0, by omega, rfl, HK.out, HR.out, HO.out⟩
  case round =>
    clear HK HR HO
    obtain ⟨k, hk, rfl, HK, HR, HO⟩ := hrel
    obtain rfl | rfl : k = 0 ∨ k = 1 := by omega
    · have HO2 : Hid (Blk wr (n + 1) (List.replicate 256 (Value.int .i64 0)) 60) := HO.out
      have lo := HO2.out.lt
      have o0 : wr.cell? ⟨n + 1, 34, none⟩ = some (.int .i64 0) := by rw [HO2.out.cell]; rfl
      have f0 := HO2.out.free 34 none
      have bl : b < wr.heap.size := Nat.lt_of_lt_of_le hbl HK.out.size
      have b0 : wr.cell? ⟨b, 0, none⟩ = some (.int .u8 34) := (HH.out.keeps HK.out (fun x => x)).cell 0
      go_wp2_with fail
      go_roundw
      case rel => exact ⟨1, by omega, by go_num, HK.out.set (b := n + 1) (i := 34) (.inr (by have := HN.out; omega)) _, HR.out.other (by show n ≠ n + 1; omega) _, by
        show Blk _ _ (mkL qm) _
        rw [← mkL_q]
        exact HO2.out.store 34 _⟩
      case measure => simp [intOf]
    · have HO2 : Hid (Blk wr (n + 1) (mkL qm) 60) := HO.out
      have hl := lc60 HO2.out
      have hsc := sc60 HR.out (by simp) qm
      go_wp2_with fail
      have hld : (loadVar 60 ⟨n, 0, none⟩).run Try.prog (wr.setRow n (mkA qm)) = .ok (.agg (mkA qm)) (wr.setRow n (mkA qm)) := lv60 (blk_setRow HR.out (mkL qm))
      refine bodyPost_ret (v := .agg (mkA qm)) ?_ rfl ⟨rfl, keeps_setRow HK.out (.inr (by have := HN.out; omega)) _⟩
      simp [results, Try.results32, asAddr, hld]
/-- What fits in a word. -/
def Fits (m : Mk) : Prop := (0 ≤ m.w0 ∧ m.w0 < 18446744073709551616) ∧ (0 ≤ m.w1 ∧ m.w1 < 18446744073709551616) ∧ (0 ≤ m.w2 ∧ m.w2 < 18446744073709551616) ∧ (0 ≤ m.w3 ∧ m.w3 < 18446744073709551616)
theorem fits_word {m : Mk} (h : Fits m) (i : Int) : 0 ≤ word m i ∧ word m i < 18446744073709551616 := by
  unfold word
  obtain ⟨h0, h1, h2, h3⟩ := h
  split
  · exact h0
  · split
    · exact h1
    · split
      · exact h2
      · exact h3
theorem mkN_eq {m : Mk} (h : Fits m) (c : Nat) : mkN m c = word m ((c : Int) / 64) / 2 ^ ((c : Int) % 64).toNat % 2 := by
  obtain ⟨h0, h1⟩ := fits_word h ((c : Int) / 64)
  unfold mkN has
  generalize word m ((c : Int) / 64) = y at *
  have p0 : (0 : Int) < 2 ^ ((c : Int) % 64).toNat := Int.pow_pos (by decide)
  have q0 : 0 ≤ y / 2 ^ ((c : Int) % 64).toNat := Int.ediv_nonneg h0 (by omega)
  have q1 : y / 2 ^ ((c : Int) % 64).toNat ≤ y := Int.ediv_le_self _ h0
  have e : bits .and .u64 (y / 2 ^ ((c : Int) % 64).toNat) 1 = y / 2 ^ ((c : Int) % 64).toNat % 2 := by
    generalize y / 2 ^ ((c : Int) % 64).toNat = z at *
    rw [u64_and z 1 q0 (by omega) (by decide) (by decide)]
    rw [show (1 : Int).toNat = 1 from rfl, Nat.and_one_is_mod]
    omega
  rw [e]
  generalize y / 2 ^ ((c : Int) % 64).toNat = z at *
  have : z % 2 = 0 ∨ z % 2 = 1 := by omega
  rcases this with h | h <;> simp [h]
set_option maxRecDepth 100000 in
set_option maxHeartbeats 4000000 in
theorem words_l (m : Mk) (hm : Fits m) (w : World) :
    Calls Try.prog 26 #[.agg #[.int .u64 m.w0, .int .u64 m.w1, .int .u64 m.w2, .int .u64 m.w3]] w fun e w' => e = .returned (.agg (mkA m)) ∧ Keeps Non w w' := by
  have HM := hide hm
  clear hm
  have hv := zero60
  obtain ⟨Z, hZ⟩ : ∃ Z : Array Value, Array.replicate 256 (.int .i64 0) = Z := ⟨_, rfl⟩
  rw [hZ] at hv
  have HZ : Hid (Z = (List.replicate 256 (Value.int .i64 0)).toArray) := by
    show _ = _
    rw [← hZ]
    rfl
  have hZ0 : ¬ Z = #[] := by
    rw [← hZ]
    intro h
    have := congrArg Array.size h
    simp at this
  clear hZ
  obtain ⟨n, hn⟩ : ∃ n, w.heap.size = n := ⟨_, rfl⟩
  have HN := hide hn
  obtain ⟨W0, hW0⟩ : ∃ W0, w.alloc (.cells #[.int .u64 m.w0, .int .u64 m.w1, .int .u64 m.w2, .int .u64 m.w3] 23) = W0 := ⟨_, rfl⟩
  have s0 : W0.heap.size = n + 1 := by rw [← hW0, ← hn]; simp
  have HW : Hid (Blk ((W0.alloc (.cells Z 60)).alloc (.cells Z 60)) n (wl m) 23) := by
    rw [← hW0]
    exact ((Blk.newAt w (wl m) 23 hn.symm).alloc _).alloc _
  have HR : Hid (Blk ((W0.alloc (.cells Z 60)).alloc (.cells Z 60)) (n + 1) (List.replicate 256 (Value.int .i64 0)) 60) := by
    rw [HZ.out]
    exact (Blk.newAt W0 (List.replicate 256 (Value.int .i64 0)) 60 s0.symm).alloc _
  have HO : Hid (Blk ((W0.alloc (.cells Z 60)).alloc (.cells Z 60)) (n + 2) (List.replicate 256 (Value.int .i64 0)) 60) := by
    rw [HZ.out]
    exact Blk.newAt (W0.alloc (.cells (List.replicate 256 (Value.int .i64 0)).toArray 60)) (List.replicate 256 (Value.int .i64 0)) 60 (by simp [s0])
  have HK : Hid (Keeps Non w ((W0.alloc (.cells Z 60)).alloc (.cells Z 60))) := by
    rw [← hW0]
    exact (((Keeps.refl Non w).alloc _).alloc (.cells Z 60)).alloc (.cells Z 60)
  rw [← hW0] at HW HR HO HK
  clear s0 hW0 hn
  go_enter Try.func26, Try.ntmps26
  go_wp2_with fail
  rw [HN.out]
  go_loopw [4] (fun i wr => ∃ (k : Nat), k ≤ 256 ∧ i = .int .i64 k ∧ Hid (Keeps Non w wr) ∧ Hid (Blk wr n (wl m) 23) ∧ Hid (Blk wr (n + 1) (List.replicate 256 (Value.int .i64 0)) 60) ∧ Hid (Blk wr (n + 2) (mkU m k) 60)) (fun i _ => 256 - (intOf i).toNat)
  case atStart => exact ⟨0, by omega, rfl, HK.out, HW.out, HR.out, by rw [mkU_zero]; exact HO.out⟩
  case round =>
    clear HK HR HO HW
    obtain ⟨k, hk, rfl, HK, HW, HR, HO⟩ := hrel
    by_cases hlt : k < 256
    · obtain ⟨j, hj⟩ : ∃ j : Nat, (k : Int) / 64 = (j : Int) := ⟨k / 64, by omega⟩
      obtain ⟨r, hr⟩ : ∃ r : Nat, (k : Int) % 64 = (r : Int) := ⟨k % 64, by omega⟩
      have hj4 : j < 4 := by omega
      obtain ⟨Y, hY⟩ : ∃ Y, word m (j : Int) = Y := ⟨_, rfl⟩
      have hYb := fits_word HM.out (j : Int)
      rw [hY] at hYb
      have hN : Hid (mkN m k = Y / 2 ^ r % 2) := by
        show _ = _
        rw [mkN_eq HM.out, hj, hr, hY, Int.toNat_natCast]
      have c0 : wr.cell? ⟨n, j, none⟩ = some (.int .u64 Y) := by
        rw [HW.out.cell, ← hY]
        obtain h | h | h | h : j = 0 ∨ j = 1 ∨ j = 2 ∨ j = 3 := by omega
        all_goals
          subst h
          rfl
      have ln := HW.out.lt
      have lo := HO.out.lt
      obtain ⟨v0, hv0⟩ := mkU_at m k k hlt
      have o0 : wr.cell? ⟨n + 2, k, none⟩ = some (.int .i64 v0) := by rw [HO.out.cell]; exact hv0
      have f0 := HO.out.free k none
      have k0 : (0 : Int) ≤ (k : Int) := by omega
      have k1 : (k : Int) < 256 := by omega
      have j0 : (0 : Int) ≤ (j : Int) := by omega
      have j1 : (j : Int) < 4 := by omega
      obtain ⟨Y0, Y1⟩ := hYb
      clear hv0 hY hv hZ0
      go_wp2_with fail
      go_loopw [5, 6] (fun x i wx => ∃ (q : Nat) (z : Int), q ≤ r ∧ i = .int .i64 q ∧ x = .int .u64 z ∧ 0 ≤ z ∧ z < 18446744073709551616 ∧ Hid (z = Y / 2 ^ q) ∧ wx = wr) (fun _ i _ => r - (intOf i).toNat)
      case atStart => exact ⟨0, Y, by omega, rfl, rfl, Y0, Y1, by show _ = _; simp, rfl⟩
      case round =>
        obtain ⟨q, z, hq, rfl, rfl, z0, z1, hz, rfl⟩ := hrel
        by_cases hqr : q < r
        · have q1 : (q : Int) < (r : Int) := by omega
          go_wp2_with fail
          go_roundw
          case rel =>
            refine ⟨q + 1, z / 2, by omega, by go_num, rfl, by omega, by omega, ?_, trivial⟩
            show _ = _
            rw [hz.out, Int.pow_succ, Int.ediv_ediv_of_nonneg (Int.pow_nonneg (by decide))]
          case measure => simp [intOf]; omega
        · have hqe : q = r := by omega
          subst hqe
          have hzN : Hid (mkN m k = z % 2) := by
            show _ = _
            rw [hN.out, ← hz.out]
          go_wp2_with fail
          go_roundw
          case rel => exact ⟨k + 1, by omega, by go_num, HK.out.set (b := n + 2) (i := k) (.inr (by have := HN.out; omega)) _, HW.out.other (by show n ≠ n + 2; omega) _, HR.out.other (by show n + 1 ≠ n + 2; omega) _, by
            rw [← mkU_set m k hlt, hzN.out]
            exact HO.out.store k _⟩
          case measure => simp [intOf]; omega
    · have hk2 : k = 256 := by omega
      subst hk2
      have HO2 : Hid (Blk wr (n + 2) (mkL m) 60) := by rw [← mkU_all]; exact HO.out
      have hl := lc60 HO2.out
      have hsc := sc60 HR.out (by rw [List.length_replicate]) m
      go_wp2_with fail
      have hld : (loadVar 60 ⟨n + 1, 0, none⟩).run Try.prog (wr.setRow (n + 1) (mkA m)) = .ok (.agg (mkA m)) (wr.setRow (n + 1) (mkA m)) := lv60 (blk_setRow HR.out (mkL m))
      refine bodyPost_ret (v := .agg (mkA m)) ?_ rfl ⟨rfl, keeps_setRow HK.out (.inr (by have := HN.out; omega)) _⟩
      simp [results, Try.results26, asAddr, hld]
end Go.Proofs.Ytoogopcaieodoaa
