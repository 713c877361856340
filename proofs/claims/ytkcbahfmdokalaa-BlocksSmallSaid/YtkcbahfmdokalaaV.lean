/-
  Walks over layer 6's reference: Ints, Texts. No condition.
-/
import Derived.Test.YtkcbahfmdokalaaU
import Derived.Test.YtkcbahfmdokalaaC
import Derived.Test.YtkcbahfmdokalaaO
namespace Go.Proofs.Ytkcbahfmdokalaa
open Go.RowKit
attribute [local go_sem] onto_cell onto_frozen
set_option linter.unusedVariables false
/-- Rows that are told by places. -/
def tabL (n : Nat) (f : Nat → Nat → Int) : List (List Int) := (List.range n).map fun i => (List.range n).map fun j => f i j
theorem tabL_length (n : Nat) (f : Nat → Nat → Int) : (tabL n f).length = n := by simp [tabL]
theorem tabL_row {n : Nat} (f : Nat → Nat → Int) {i : Nat} (h : i < n) : (tabL n f).getD i [] = (List.range n).map fun j => f i j := by
  rw [getD_numL (by rw [tabL_length]; exact h)]
  simp [tabL]
theorem tabL_at {n : Nat} (f : Nat → Nat → Int) {i j : Nat} (h : i < n) (hj : j < n) : ((tabL n f).getD i []).getD j 0 = f i j := by
  rw [tabL_row f h, getD_num (by simpa using hj)]
  simp
theorem tabL_len {n : Nat} (f : Nat → Nat → Int) {i : Nat} (h : i < n) : ((tabL n f).getD i []).length = n := by
  rw [tabL_row f h]
  simp
theorem take_snocL {α : Type} {N : List α} {d : α} {i : Nat} (h : i < N.length) : N.take (i + 1) = N.take i ++ [N.getD i d] := by
  rw [List.take_succ_eq_append_getElem h, getD_numL h]
/-- A row that is being marked. -/
def markF (K : List Int) (i m j : Nat) : Int := if j < m ∧ K.getD i 0 = K.getD j 0 then 1 else 0
theorem markF_yes (K : List Int) (i m n : Nat) (h : K.getD i 0 = K.getD m 0) : rowF n (fun j => if j = m then 1 else markF K i m j) = rowF n (markF K i (m + 1)) := by
  refine rowF_congr fun j _ => ?_
  unfold markF
  by_cases h1 : j = m
  · subst h1
    rw [if_pos rfl, if_pos ⟨by omega, h⟩]
  · rw [if_neg h1]
    have : j < m ↔ j < m + 1 := by omega
    simp only [this]
theorem markF_no (K : List Int) (i m n : Nat) (h : ¬ K.getD i 0 = K.getD m 0) : rowF n (markF K i m) = rowF n (markF K i (m + 1)) := by
  refine rowF_congr fun j _ => ?_
  unfold markF
  by_cases h1 : j = m
  · subst h1
    rw [if_neg (by omega), if_neg (fun hh => h hh.2)]
  · have : j < m ↔ j < m + 1 := by omega
    simp only [this]
theorem markF_end (K : List Int) (i n : Nat) : rowF n (markF K i n) = ((List.range n).map fun j => (if K.getD i 0 = K.getD j 0 then 1 else 0 : Int)).map (Value.int .i64) := by
  unfold rowF
  rw [List.map_map]
  refine List.map_congr_left fun j hj => ?_
  have := List.mem_range.1 hj
  show Value.int .i64 (markF K i n j) = _
  unfold markF
  simp only [this, true_and]
  rfl
def sameF (K : List Int) (i j : Nat) : Int := if K.getD i 0 = K.getD j 0 then 1 else 0
theorem sameF_one (K : List Int) (i j : Nat) : sameF K i j = 1 ↔ K.getD i 0 = K.getD j 0 := by
  unfold sameF
  split <;> simp_all
theorem numStep_ints (K : List Int) : NumStep K.length (numb [] K) (fun i => (firsts [] (K.take i)).length) (fun i k => K.getD i 0 = K.getD k 0) :=
  numStep_of K _ fun i k hi hk => by rw [getD_num hi, getD_num (by omega)]
set_option maxRecDepth 100000 in
set_option maxHeartbeats 8000000 in
theorem intsR_l (a : Option Addr) (n cap : Nat) (K : List Int) (w : World) (h : Ints w a n K) (hn : n ≤ 2000) :
    Calls Try.prog 21 #[.slice a n cap] w fun e w' => ∃ v, e = .returned v ∧ GotInts w w' v (numb [] K) := by
  obtain ⟨i0, hi, hz0, hz1, hz2⟩ := info22_parts
  have HX := hide h
  clear h
  go_enter Try.func21, Try.ntmps21
  go_wp2_with fail
  go_loopw [4, 3] (fun i v wr => ∃ (k : Nat) (S : List Value), k ≤ n ∧ i = .int .i64 k ∧ Hid (wr.ownsRow w.heap.size 22 1 v k S) ∧ Hid (Kids wr S ((tabL n (sameF K)).take k) v.ownBlock) ∧ Hid (Keeps Non w wr)) (fun i _ _ => n - (intOf i).toNat)
  case atStart => exact ⟨0, [], by omega, rfl, World.ownsRow_nil _ _ _ _, kids_none _ _ _, Keeps.refl _ _⟩
  case round =>
    obtain ⟨k, S, hk, rfl, HO, HKd, HK⟩ := hrel
    by_cases hlt : k < n
    · have hms := make22 wr n (by omega)
      obtain ⟨R, hR⟩ : ∃ B, wr.heap.size = B := ⟨_, rfl⟩
      have HRs := hide hR
      have HR0 : Hid (Blk (wr.alloc (.cells (Array.replicate n (.int .i64 0)) 3)) R (rowF n (markF K k 0)) 3) := by
        have e : rowF n (markF K k 0) = List.replicate n (.int .i64 0) := by
          rw [← rowF_zero]
          exact rowF_congr fun j _ => by simp [markF]
        rw [e, ← List.toArray_replicate]
        exact Blk.newAt wr (List.replicate n (.int .i64 0)) 3 hR.symm
      have HK0 := hide ((Keeps.refl Non wr).alloc (.cells (Array.replicate n (.int .i64 0)) 3))
      obtain ⟨w0, hw0⟩ : ∃ w0, wr = w0 := ⟨_, rfl⟩
      have HW0 := hide hw0
      have hxl : K.length = n := HX.out.len
      have k0 : (0 : Int) ≤ (k : Int) := by omega
      have k1 : (k : Int) < (n : Int) := by omega
      clear hw0 hR
      go_wp2_with fail
      rw [HRs.out]
      obtain ⟨W, hW⟩ : ∃ W, wr.alloc (.cells (Array.replicate n (.int .i64 0)) 3) = W := ⟨_, rfl⟩
      rw [hW] at HR0 HK0 hms
      try rw [hW]
      clear hW hms
      go_wp2_with fail
      go_loopw [6] (fun t wi => ∃ (m : Nat), m ≤ n ∧ t = .int .i64 m ∧ Hid (Blk wi R (rowF n (markF K k m)) 3) ∧ Hid (Keeps Non w0 wi)) (fun t _ => n - (intOf t).toNat)
      case atStart => exact ⟨0, by omega, rfl, HR0.out, by rw [HW0.out] at HK0; exact HK0.out⟩
      case round =>
        rw [HW0.out] at HO HKd HK HRs
        clear HR0 HK0
        obtain ⟨m, hm, rfl, HB, HKi⟩ := hrel
        by_cases hlm : m < n
        · obtain ⟨b1, o1, rfl, hb1, hc1⟩ := (HX.out.non (HK.out.then HKi.out)).at (by omega)
          have c1 := hc1 k hlt
          have c2 := hc1 m hlm
          obtain ⟨x, hx⟩ : ∃ x, K.getD k 0 = x := ⟨_, rfl⟩
          obtain ⟨y, hy⟩ : ∃ y, K.getD m 0 = y := ⟨_, rfl⟩
          rw [hx] at c1
          rw [hy] at c2
          have cB : wr.cell? ⟨R, m, none⟩ = some (.int .i64 (markF K k m m)) := by rw [HB.out.cell]; exact rowF_at _ hlm
          have fB := HB.out.free m none
          have lB := HB.out.lt
          have m0 : (0 : Int) ≤ (m : Int) := by omega
          have m1 : (m : Int) < (n : Int) := by omega
          by_cases hxy : x = y
          · have HM := hide (markF_yes K k m n (by rw [hx, hy, hxy]))
            subst hxy
            clear hc1 hx hy
            go_wp2_with fail
            go_region
            all_goals
              go_wp2_with fail
              go_roundw
              case rel => exact ⟨m + 1, by omega, by go_num, by
                have h1 := HB.out.drew.store m (.int .i64 1)
                rw [rowF_set, HM.out] at h1
                exact h1, HKi.out.drew.set (b := R) (.inr (by have := HRs.out; omega)) _⟩
              case measure => simp [intOf]; omega
          · have HM := hide (markF_no K k m n (by rw [hx, hy]; exact hxy))
            clear hc1 hx hy
            go_wp2_with fail
            go_region
            all_goals
              go_wp2_with fail
              go_roundw
              case rel => exact ⟨m + 1, by omega, by go_num, by
                have h1 := HB.out
                rw [HM.out] at h1
                exact h1.drew, HKi.out.drew⟩
              case measure => simp [intOf]; omega
        · obtain rfl : n = m := by omega
          have y9 : ¬ (n : Int) < (n : Int) := by omega
          have hB := HB.out
          rw [markF_end] at hB
          have hI := ints_of_blk hB (by simp; omega)
          have hll : ((List.range n).map fun j => (if K.getD k 0 = K.getD j 0 then 1 else 0 : Int)).length = n := by simp
          rw [hll] at hI
          have hrow : (tabL n (sameF K)).getD k [] = (List.range n).map fun j => (if K.getD k 0 = K.getD j 0 then 1 else 0 : Int) := tabL_row _ hlt
          rw [← hrow] at hI hll
          have HI := hide hI
          have HLL := hide hll
          clear hB hI hll hrow
          go_wp2_with (at_builtin; refine wpList_append_own_at _ rfl _ _ 36 rfl w.heap.size 22 i0 (.slice none 0 0) 1 24 Try.underlying36 hi hz0 hz1 hz2 rfl (by decide) _ k S rfl (owns_keeps HO.out (HKi.out.alloc _) (fun _ _ x => x)) ⟨wr.heap.size, 0, none⟩ 1 1 [.slice (some ⟨R, 0, none⟩) n n] rfl ?qc1 ?qc2 ?qc3 ?qc4 ?qc5 ?qc6 ?_)
          case qc3 => first | rfl | (intro u hu; simp at hu; subst hu; rfl)
          case qc4 => unfold maxLen; omega
          case qc5 => omega
          case qc6 => (try simp); have := HK.out.size; have := HKi.out.size; omega
          intro v' w5 hown hgrow hnil hat
          have HO5 := hide hown
          have HKd5 := hide (kids_push (c4 := n) (v' := v') HKd.out HO.out (by rw [List.length_take, tabL_length]; omega) (HKi.out.alloc (.cells #[.slice (some ⟨R, 0, none⟩) n n] 22)) HLL.out (HI.out.non ((Keeps.refl Non _).alloc _)) (fun b o e => by
            cases e
            have := HI.out
            have h1 := HB.out.lt
            have h2 := HRs.out
            rw [World.size_alloc]
            omega) hgrow (by rw [World.size_alloc]; exact hat))
          rw [← take_snocL (by rw [tabL_length]; exact hlt)] at HKd5
          have HKn : Hid (Keeps Non w w5) := keeps_grown ((HK.out.then HKi.out).alloc _) hgrow (fun g hg => .inr (own_ge HO.out g hg))
          clear hown hgrow hnil hat
          go_wp2_with fail
          go_roundw
          case rel => exact ⟨k + 1, _, by omega, by go_num, HO5.out, HKd5.out, HKn.out⟩
          case measure => simp [intOf]; omega
    · obtain rfl : n = k := by omega
      have y9 : ¬ (n : Int) < (n : Int) := by omega
      have hxl : K.length = n := HX.out.len
      have hKd := HKd.out
      rw [List.take_of_length_le (by rw [tabL_length]; exact Nat.le_refl _)] at hKd
      obtain ⟨a6, c6, rfl, hR⟩ := kids_rows hKd HO.out (tabL_length _ _) (by omega)
      have hst := numStep_ints K
      rw [hxl] at hst
      have HC := hide (numR_l a6 n c6 (tabL n (sameF K)) (numb [] K) _ _ wr hR (by omega) hst (fun i hi => by rw [tabL_len _ hi]; omega) (fun i k hk hi => by rw [tabL_at _ hi (by omega)]; exact sameF_one K i k))
      clear hKd hR hst hxl
      go_wp2_with fail
      refine HC.out.mono ?_
      rintro e w4 ⟨v, rfl, a7, c7, rfl, hI, hk4⟩
      have HE : Hid (GotInts w w4 (.slice a7 (numb [] K).length c7) (numb [] K)) := ⟨a7, c7, rfl, hI, HK.out.then hk4⟩
      clear hI hk4
      go_wp2_with fail
      go_ret
      exact ⟨_, rfl, HE.out⟩
end Go.Proofs.Ytkcbahfmdokalaa
