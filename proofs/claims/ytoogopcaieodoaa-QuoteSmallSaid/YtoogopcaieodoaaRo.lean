/-
  The reference's ReadByte. No condition.
-/
import Derived.Test.YtoogopcaieodoaaRn
namespace Go.Proofs.Ytoogopcaieodoaa
open Go.RowKit Go.Shelf
attribute [local go_sem] onto_cell onto_frozen
attribute [-go_sem] loadCellsFrom
set_option linter.unusedVariables false
set_option maxRecDepth 100000 in
set_option maxHeartbeats 40000000 in
theorem readByteR_l (m : Mk) (s : ByteArray) (v : Value) (hv : rdT (rdB m s.data.toList) = v) (w : World) :
    Calls Try.prog 27 #[.string s, .agg (mkA m)] w fun e w' => e = .returned v ∧ Keeps Non w w' := by
  have HV := hide hv
  clear hv
  obtain ⟨L, hL⟩ : ∃ L, mayOf s.data.toList = L := ⟨_, rfl⟩
  have HMay := hide (fun w => may_l s w)
  rw [hL] at HMay
  have HL := hide hL
  clear hL
  obtain ⟨n, hn⟩ : ∃ n, w.heap.size = n := ⟨_, rfl⟩
  have HN := hide hn
  obtain ⟨W, hW⟩ : ∃ W, w.alloc (.cells (mkA m) 60) = W := ⟨_, rfl⟩
  have HB : Hid (Blk W n (mkL m) 60) := by rw [← hW]; exact blkA_new w m hn.symm
  have HK : Hid (Keeps Non w W) := by rw [← hW]; exact (Keeps.refl _ _).alloc _
  have HW := hide hW
  clear hW hn
  go_enter Try.func27, Try.ntmps27
  go_wp2_with fail
  rw [HN.out, HW.out]
  refine (HMay.out _).mono ?_
  rintro e V ⟨a, cap, rfl, hy, hk⟩
  replace HB := hide (HB.out.keeps hk (fun x => x))
  replace HK := hide (HK.out.then hk)
  have HY := hide hy
  clear hk hy HMay
  obtain ⟨N, hN⟩ : ∃ N, L.length = N := ⟨_, rfl⟩
  rw [hN] at HY ⊢
  have HNn := hide hN
  clear hN
  go_wp2_with fail
  go_loopw [8] (fun i wr => ∃ (k : Nat), k ≤ N ∧ i = .int .i64 k ∧ Hid (∀ j, j < k → ∀ u : UInt8, (u.toNat : Int) = L.getD j 0 → ∀ x ∈ fm m u, Lib.hasPrefix s.data.toList x = false) ∧ Hid (Keeps Non V wr)) (fun i _ => N - (intOf i).toNat)
  case atStart => exact ⟨0, by omega, rfl, fun j hj => by omega, Keeps.refl _ _⟩
  case round =>
    obtain ⟨k, hk, rfl, hJ, HKr⟩ := hrel
    have hNb := HY.out.big
    by_cases hlt : k < N
    · obtain ⟨bq, off, rfl, hbq, hcell⟩ := HY.out.at (by omega)
      obtain ⟨c, hc⟩ : ∃ c : Int, L.getD k 0 = c := ⟨_, rfl⟩
      have b0 : 0 ≤ c := by rw [← hc]; exact (HY.out.bd k).1
      have b1 : c ≤ 255 := by rw [← hc]; exact (HY.out.bd k).2
      obtain ⟨u, hu⟩ : ∃ u : UInt8, (u.toNat : Int) = c := ⟨UInt8.ofNat c.toNat, by
        rw [UInt8.toNat_ofNat']
        omega⟩
      have HU := hide hu
      have HC := hide hc
      have lq : bq < wr.heap.size := Nat.lt_of_lt_of_le hbq HKr.out.size
      have cq : wr.cell? ⟨bq, off + k, none⟩ = some (.int .u8 c) := by
        rw [HKr.out.cell (p := ⟨bq, off + k, none⟩) hbq (fun x => x), hcell k hlt, hc]
      have hld := lc60 ((HB.out.keeps HKr.out (fun x => x)).drew)
      obtain ⟨Q, hQ⟩ : ∃ Q, fm m u = Q := ⟨_, rfl⟩
      have HF := hide (fun w => forms_l m u c hu w)
      rw [hQ] at HF
      have HQ := hide hQ
      have g1 : (0 : Int) ≤ (k : Int) := by omega
      have g2 : (k : Int) < (N : Int) := by omega
      clear hu hc hQ hcell
      go_wp2_with fail
      go_region_law (go_simp; go_at_call 44; refine (HF.out _).mono ?_; rintro e w9 ⟨a9, cap9, rfl, hS9, hk9⟩)
      all_goals
        have HK9 := hide (HKr.out.drew.then hk9)
        have HS9 := hide hS9
        clear hk9 hS9 hld
        obtain ⟨q, hq⟩ : ∃ q, Q.length = q := ⟨_, rfl⟩
        rw [hq]
        have Hq := hide hq
        have hqb : q ≤ 6 := by
          have h1 := r0_len m u
          have h2 := r1_len u 3
          have h3 : (r2 u 4).length = 4 := rfl
          have h4 := congrArg List.length HQ.out
          unfold fm at h4
          simp only [List.length_append, h3] at h4
          omega
        clear hq
        have cq9 : w9.cell? ⟨bq, off + k, none⟩ = some (.int .u8 c) := by
          obtain ⟨bq', off', e, hbq', hcell'⟩ := HY.out.at (by omega)
          cases e
          rw [HK9.out.cell (p := ⟨bq, off + k, none⟩) hbq' (fun x => x), hcell' k hlt, HC.out]
        have lq9 : bq < w9.heap.size := Nat.lt_of_lt_of_le hbq HK9.out.size
        clear cq lq
        go_wp2_with fail
        go_loopw [10] (fun i wx => ∃ (t : Nat), t ≤ q ∧ i = .int .i64 t ∧ Hid (∀ j, j < t → Lib.hasPrefix s.data.toList (Q.getD j []) = false) ∧ w9 = wx) (fun i _ => q - (intOf i).toNat)
        case atStart => exact ⟨0, by omega, rfl, fun j hj => by omega, rfl⟩
        case round =>
          obtain ⟨t, ht, rfl, hT, rfl⟩ := hrel
          by_cases htq : t < q
          · have htQ : t < Q.length := by rw [Hq.out]; exact htq
            obtain ⟨b9, off9, rfl, hb9, hcell9⟩ : ∃ b off, a9 = some ⟨b, off, none⟩ ∧ b < w9.heap.size ∧ ∀ i, i < Q.length → w9.cell? ⟨b, off + i, none⟩ = some (sv (Q.getD i [])) := by
              rcases HS9.out with h | h
              · rw [h] at htQ
                simp at htQ
              · exact h
            obtain ⟨o, ho⟩ := str_of (Q.getD t [])
            have c9 : w9.cell? ⟨b9, off9 + t, none⟩ = some (.string o) := by rw [hcell9 t htQ, sv_of ho]
            obtain ⟨bv, hbv⟩ : ∃ bv, Lib.hasPrefix s.data.toList o.data.toList = bv := ⟨_, rfl⟩
            have B1 := hide (fun w => begins_l s o bv w hbv)
            have HBV := hide hbv
            have HO := hide ho
            have HM : Hid (Q.getD t [] ∈ fm m u) := by
              show _ ∈ _
              rw [HQ.out, List.getD_eq_getElem?_getD, List.getElem?_eq_getElem htQ]
              exact List.getElem_mem htQ
            have t1 : (0 : Int) ≤ (t : Int) := by omega
            have t2 : (t : Int) < (q : Int) := by omega
            clear hcell9 hbv ho
            cases bv with
            | true =>
              have hV : Hid (v = .tuple #[.int .u8 c, .int .i64 o.size, .int .i64 0]) := by
                show _ = _
                rw [← HV.out, found m u o.data.toList s.data.toList (by rw [HO.out]; exact HM.out) HBV.out, HU.out]
                rfl
              go_wp2_with fail
              refine (B1.out _).mono ?_
              rintro e _ ⟨rfl, rfl⟩
              go_wp2_with fail
              go_region
              all_goals
                go_wp2_with fail
                go_ret3
                exact ⟨by rw [hV.out]; rfl, HK.out.then (HK9.out.drew)⟩
            | false =>
              have hT2 : Hid (∀ j, j < t + 1 → Lib.hasPrefix s.data.toList (Q.getD j []) = false) := by
                intro j hj
                by_cases hjt : j = t
                · subst hjt
                  rw [← HO.out]
                  exact HBV.out
                · exact hT.out j (by omega)
              go_wp2_with fail
              refine (B1.out _).mono ?_
              rintro e _ ⟨rfl, rfl⟩
              go_wp2_with fail
              go_roundw
              case rel => exact ⟨t + 1, by omega, by go_num, hT2, by first | rfl | trivial⟩
              case measure => simp [intOf]; omega
          · have hJ2 : Hid (∀ j, j < k + 1 → ∀ u : UInt8, (u.toNat : Int) = L.getD j 0 → ∀ x ∈ fm m u, Lib.hasPrefix s.data.toList x = false) := by
              intro j hj u' hu' x hx
              by_cases hjk : j = k
              · subst hjk
                rw [HC.out, ← HU.out] at hu'
                obtain rfl := (u8_int u' u).1 hu'
                rw [HQ.out] at hx
                obtain ⟨i, hi, rfl⟩ := List.getElem_of_mem hx
                have := hT.out i (by have := Hq.out; omega)
                rw [List.getD_eq_getElem?_getD, List.getElem?_eq_getElem hi] at this
                exact this
              · exact hJ.out j (by omega) u' hu' x hx
            go_wp2_with fail
            go_roundw
            case rel => exact ⟨k + 1, by omega, by go_num, hJ2, HK9.out⟩
            case measure => simp [intOf]; omega
    · have hkN : k = N := by omega
      have hV : Hid (v = .tuple #[.int .u8 0, .int .i64 0, .int .i64 20]) := by
        show _ = _
        rw [← HV.out, not_found m s.data.toList (fun v hv u hu x hx => by
          rw [HL.out] at hv
          obtain ⟨i, hi, rfl⟩ := List.getElem_of_mem hv
          refine hJ.out i (by have := HNn.out; omega) u ?_ x hx
          rw [hu, List.getD_eq_getElem?_getD, List.getElem?_eq_getElem hi]
          rfl)]
        rfl
      go_wp2_with fail
      go_ret3
      exact ⟨by rw [hV.out]; rfl, HK.out.then HKr.out⟩
end Go.Proofs.Ytoogopcaieodoaa
