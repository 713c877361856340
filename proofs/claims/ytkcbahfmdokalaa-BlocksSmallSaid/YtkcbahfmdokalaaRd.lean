/-
  Walks over layer 6's reference: Meet. No condition.
-/
import Derived.Test.YtkcbahfmdokalaaRc
namespace Go.Proofs.Ytkcbahfmdokalaa
open Go.RowKit
attribute [local go_sem] onto_cell onto_frozen
set_option linter.unusedVariables false
/-- A row that is being marked. -/
def markG (f : Nat → Nat → Int) (i m j : Nat) : Int := if j < m then f i j else 0
theorem markG_yes (f : Nat → Nat → Int) (i m n : Nat) (v : Int) (h : f i m = v) : rowF n (fun j => if j = m then v else markG f i m j) = rowF n (markG f i (m + 1)) := by
  refine rowF_congr fun j _ => ?_
  unfold markG
  by_cases h1 : j = m
  · subst h1
    rw [if_pos rfl, if_pos (by omega), h]
  · rw [if_neg h1]
    by_cases h2 : j < m
    · rw [if_pos h2, if_pos (show j < m + 1 by omega)]
    · rw [if_neg h2, if_neg (show ¬ j < m + 1 by omega)]
theorem markG_no (f : Nat → Nat → Int) (i m n : Nat) (h : f i m = 0) : rowF n (markG f i m) = rowF n (markG f i (m + 1)) := by
  refine rowF_congr fun j _ => ?_
  unfold markG
  by_cases h1 : j = m
  · subst h1
    rw [if_neg (by omega), if_pos (by omega), h]
  · by_cases h2 : j < m
    · rw [if_pos h2, if_pos (show j < m + 1 by omega)]
    · rw [if_neg h2, if_neg (show ¬ j < m + 1 by omega)]
theorem markG_end (f : Nat → Nat → Int) (i n : Nat) : rowF n (markG f i n) = ((List.range n).map fun j => f i j).map (Value.int .i64) := by
  unfold rowF
  rw [List.map_map]
  refine List.map_congr_left fun j hj => ?_
  have := List.mem_range.1 hj
  show Value.int .i64 (markG f i n j) = _
  unfold markG
  rw [if_pos this]
  rfl
def same2F (p q : List Int) (i j : Nat) : Int := if p.getD i 0 = p.getD j 0 ∧ q.getD i 0 = q.getD j 0 then 1 else 0
theorem same2F_one (p q : List Int) (i j : Nat) : same2F p q i j = 1 ↔ p.getD i 0 = p.getD j 0 ∧ q.getD i 0 = q.getD j 0 := by
  unfold same2F
  split <;> simp_all
theorem numStep_meet {n : Nat} {p q : List Int} (hp : p.length = n) (hq : q.length = n) : NumStep n (meetL p q) (fun i => (firsts [] ((p.zip q).take i)).length) (fun i k => p.getD i 0 = p.getD k 0 ∧ q.getD i 0 = q.getD k 0) := by
  have hl : (p.zip q).length = n := by simp [hp, hq]
  have := numStep_of (p.zip q) (fun i k => p.getD i 0 = p.getD k 0 ∧ q.getD i 0 = q.getD k 0) fun i k hi hk => by
    rw [List.getElem_zip, List.getElem_zip, Prod.mk.injEq, getD_num (by omega), getD_num (by omega), getD_num (by omega), getD_num (by omega)]
  rw [hl] at this
  exact this
set_option maxRecDepth 100000 in
set_option maxHeartbeats 8000000 in
theorem meetR_l (a b : Option Addr) (n cap cap2 : Nat) (p q : List Int) (w : World) (h : Ints w a n p) (h2 : Ints w b n q) (hn : n ≤ 2000) :
    Calls Try.prog 62 #[.slice a n cap, .slice b n cap2] w fun e w' => ∃ v, e = .returned v ∧ GotInts w w' v (meetL p q) := by
  obtain ⟨i0, hi, hz0, hz1, hz2⟩ := info22_parts
  have HX := hide h
  have HY := hide h2
  clear h h2
  go_enter Try.func62, Try.ntmps62
  go_wp2_with fail
  go_loopw [6, 5] (fun i v wr => ∃ (k : Nat) (S : List Value), k ≤ n ∧ i = .int .i64 k ∧ Hid (wr.ownsRow w.heap.size 22 1 v k S) ∧ Hid (Kids wr S ((tabL n (same2F p q)).take k) v.ownBlock) ∧ Hid (Keeps Non w wr)) (fun i _ _ => n - (intOf i).toNat)
  case atStart => exact ⟨0, [], by omega, rfl, World.ownsRow_nil _ _ _ _, kids_none _ _ _, Keeps.refl _ _⟩
  case round =>
    obtain ⟨k, S, hk, rfl, HO, HKd, HK⟩ := hrel
    by_cases hlt : k < n
    · have hms := make22 wr n (by omega)
      obtain ⟨R, hR⟩ : ∃ B, wr.heap.size = B := ⟨_, rfl⟩
      have HRs := hide hR
      have HR0 : Hid (Blk (wr.alloc (.cells (Array.replicate n (.int .i64 0)) 3)) R (rowF n (markG (same2F p q) k 0)) 3) := by
        have e : rowF n (markG (same2F p q) k 0) = List.replicate n (.int .i64 0) := by
          rw [← rowF_zero]
          exact rowF_congr fun j _ => by simp [markG]
        rw [e, ← List.toArray_replicate]
        exact Blk.newAt wr (List.replicate n (.int .i64 0)) 3 hR.symm
      have HK0 := hide ((Keeps.refl Non wr).alloc (.cells (Array.replicate n (.int .i64 0)) 3))
      obtain ⟨w0, hw0⟩ : ∃ w0, wr = w0 := ⟨_, rfl⟩
      have HW0 := hide hw0
      have k0 : (0 : Int) ≤ (k : Int) := by omega
      have k1 : (k : Int) < (n : Int) := by omega
      clear hw0 hR
      go_wp2_with fail
      rw [HRs.out]
      obtain ⟨W, hW⟩ : ∃ W, wr.alloc (.cells (Array.replicate n (.int .i64 0)) 3) = W := ⟨_, rfl⟩
      rw [hW] at HR0 HK0 hms
      try rw [hW]
      clear hW hms
      go_wp2_with fail
      go_loopw [8] (fun t wi => ∃ (m : Nat), m ≤ n ∧ t = .int .i64 m ∧ Hid (Blk wi R (rowF n (markG (same2F p q) k m)) 3) ∧ Hid (Keeps Non w0 wi)) (fun t _ => n - (intOf t).toNat)
      case atStart => exact ⟨0, by omega, rfl, HR0.out, by rw [HW0.out] at HK0; exact HK0.out⟩
      case round =>
        rw [HW0.out] at HO HKd HK HRs
        clear HR0 HK0
        obtain ⟨m, hm, rfl, HB, HKi⟩ := hrel
        by_cases hlm : m < n
        · obtain ⟨b1, o1, rfl, hb1, hc1⟩ := (HX.out.non (HK.out.then HKi.out)).at (by omega)
          obtain ⟨b2, o2, rfl, hb2, hc2⟩ := (HY.out.non (HK.out.then HKi.out)).at (by omega)
          have c1 := hc1 k hlt
          have c2 := hc1 m hlm
          have c3 := hc2 k hlt
          have c4 := hc2 m hlm
          obtain ⟨x, hx⟩ : ∃ x, p.getD k 0 = x := ⟨_, rfl⟩
          obtain ⟨y, hy⟩ : ∃ y, p.getD m 0 = y := ⟨_, rfl⟩
          obtain ⟨u, hu⟩ : ∃ x, q.getD k 0 = x := ⟨_, rfl⟩
          obtain ⟨z, hz⟩ : ∃ y, q.getD m 0 = y := ⟨_, rfl⟩
          have hf : same2F p q k m = if x = y ∧ u = z then 1 else 0 := by unfold same2F; rw [hx, hy, hu, hz]
          rw [hx] at c1
          rw [hy] at c2
          rw [hu] at c3
          rw [hz] at c4
          have cB : wr.cell? ⟨R, m, none⟩ = some (.int .i64 (markG (same2F p q) k m m)) := by rw [HB.out.cell]; exact rowF_at _ hlm
          have fB := HB.out.free m none
          have lB := HB.out.lt
          have m0 : (0 : Int) ≤ (m : Int) := by omega
          have m1 : (m : Int) < (n : Int) := by omega
          have HBu : Hid (∀ u, Keeps Non wr u → u.cell? ⟨R, m, none⟩ = some (.int .i64 (markG (same2F p q) k m m)) ∧ u.frozen? ⟨R, m, none⟩ = false ∧ R < u.heap.size) := fun u hu => ⟨(hu.cell (p := ⟨R, m, none⟩) lB (fun x => x)).trans cB, (hu.frozen (p := ⟨R, m, none⟩) lB (fun x => x)).trans fB, Nat.lt_of_lt_of_le lB hu.size⟩
          clear hc1 hc2 hx hy hu hz
          by_cases hxy : x = y
          · by_cases huz : u = z
            · have HM := hide (markG_yes (same2F p q) k m n 1 (by rw [hf, if_pos ⟨hxy, huz⟩]))
              subst hxy
              subst huz
              clear hf
              go_wp2_with fail
              refine wp_region_onto (by kernel_rfl) (by kernel_rfl) ?_
              repeat (go_big_quiet_step (fail))
              refine wpQuiet_nil ?_
              rintro _ ⟨u0, rfl⟩
              have KO := hide (onto_keeps wr u0)
              obtain ⟨cB2, fB2, lB2⟩ := HBu.out _ KO.out
              go_wp2_with fail
              go_roundw
              case rel => exact ⟨m + 1, by omega, by go_num, by
                have h1 := (HB.out.keeps KO.out (fun x => x)).store m (.int .i64 1)
                rw [rowF_set, HM.out] at h1
                exact h1, (HKi.out.then KO.out).set (b := R) (.inr (by have := HRs.out; omega)) _⟩
              case measure => simp [intOf]; omega
            · have HM := hide (markG_no (same2F p q) k m n (by rw [hf, if_neg (fun h => huz h.2)]))
              have huz2 : (u == z) = false := by simpa using huz
              subst hxy
              clear hf
              go_wp2_with fail
              refine wp_region_onto (by kernel_rfl) (by kernel_rfl) ?_
              repeat (go_big_quiet_step (fail))
              refine wpQuiet_nil ?_
              rintro _ ⟨u0, rfl⟩
              have KO := hide (onto_keeps wr u0)
              go_wp2_with fail
              go_roundw
              case rel => exact ⟨m + 1, by omega, by go_num, by
                have h1 := HB.out.keeps KO.out (fun x => x)
                rw [HM.out] at h1
                exact h1, HKi.out.then KO.out⟩
              case measure => simp [intOf]; omega
          · have HM := hide (markG_no (same2F p q) k m n (by rw [hf, if_neg (fun h => hxy h.1)]))
            have hxy2 : (x == y) = false := by simpa using hxy
            clear hf
            go_wp2_with fail
            refine wp_region_onto (by kernel_rfl) (by kernel_rfl) ?_
            repeat (go_big_quiet_step (fail))
            refine wpQuiet_nil ?_
            rintro _ ⟨u0, rfl⟩
            have KO := hide (onto_keeps wr u0)
            go_wp2_with fail
            go_roundw
            case rel => exact ⟨m + 1, by omega, by go_num, by
              have h1 := HB.out.keeps KO.out (fun x => x)
              rw [HM.out] at h1
              exact h1, HKi.out.then KO.out⟩
            case measure => simp [intOf]; omega
        · obtain rfl : n = m := by omega
          have y9 : ¬ (n : Int) < (n : Int) := by omega
          have hB := HB.out
          rw [markG_end] at hB
          have hI := ints_of_blk hB (by simp; omega)
          have hll : ((List.range n).map fun j => same2F p q k j).length = n := by simp
          rw [hll] at hI
          have hrow : (tabL n (same2F p q)).getD k [] = (List.range n).map fun j => same2F p q k j := tabL_row _ hlt
          rw [← hrow] at hI hll
          have HI := hide hI
          have HLL := hide hll
          clear hB hI hll hrow
          go_wp2_with (at_builtin; refine wpList_append_own_at _ rfl _ _ 36 rfl w.heap.size 22 i0 (.slice none 0 0) 1 24 Try.underlying36 hi hz0 hz1 hz2 rfl (by decide) _ k S rfl (owns_keeps HO.out (HKi.out.alloc _) (fun _ _ x => x)) ⟨wr.heap.size, 0, none⟩ 1 1 [.slice (some ⟨R, 0, none⟩) n n] rfl ?qc1 ?qc2 ?qc3 ?qc4 ?qc5 ?qc6 ?_)
          case qc3 => first | rfl | (intro u hu; simp at hu; subst hu; rfl)
          case qc4 => unfold maxLen; omega
          case qc5 => omega
          case qc6 => (try simp); have := HK.out.size; have := HKi.out.size; omega
          intro v' w5 hown hgrow hnil hat
          have HO5 := hide hown
          have HKd5 := hide (kids_push (c4 := n) (v' := v') HKd.out HO.out (by rw [List.length_take, tabL_length]; omega) (HKi.out.alloc (.cells #[.slice (some ⟨R, 0, none⟩) n n] 22)) HLL.out (HI.out.non ((Keeps.refl Non _).alloc _)) (fun b o e => by
            cases e
            have := HI.out
            have h1 := HB.out.lt
            have h2 := HRs.out
            rw [World.size_alloc]
            omega) hgrow (by rw [World.size_alloc]; exact hat))
          rw [← take_snocL (by rw [tabL_length]; exact hlt)] at HKd5
          have HKn : Hid (Keeps Non w w5) := keeps_grown ((HK.out.then HKi.out).alloc _) hgrow (fun g hg => .inr (own_ge HO.out g hg))
          clear hown hgrow hnil hat
          go_wp2_with fail
          go_roundw
          case rel => exact ⟨k + 1, _, by omega, by go_num, HO5.out, HKd5.out, HKn.out⟩
          case measure => simp [intOf]; omega
    · obtain rfl : n = k := by omega
      have y9 : ¬ (n : Int) < (n : Int) := by omega
      have hxl : p.length = n := HX.out.len
      have hKd := HKd.out
      rw [List.take_of_length_le (by rw [tabL_length]; exact Nat.le_refl _)] at hKd
      obtain ⟨a6, c6, rfl, hR⟩ := kids_rows hKd HO.out (tabL_length _ _) (by omega)
      have hst := numStep_meet hxl HY.out.len
      have HC := hide (numR_l a6 n c6 (tabL n (same2F p q)) (meetL p q) _ _ wr hR (by omega) hst (fun i hi => by rw [tabL_len _ hi]; omega) (fun i k hk hi => by rw [tabL_at _ hi (by omega)]; exact same2F_one p q i k))
      clear hKd hR hst hxl
      go_wp2_with fail
      refine HC.out.mono ?_
      rintro e w4 ⟨v, rfl, a7, c7, rfl, hI, hk4⟩
      have HE : Hid (GotInts w w4 (.slice a7 (meetL p q).length c7) (meetL p q)) := ⟨a7, c7, rfl, hI, HK.out.then hk4⟩
      clear hI hk4
      go_wp2_with fail
      go_ret
      exact ⟨_, rfl, HE.out⟩
end Go.Proofs.Ytkcbahfmdokalaa
