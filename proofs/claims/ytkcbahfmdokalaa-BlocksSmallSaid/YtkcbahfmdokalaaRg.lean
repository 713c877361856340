/-
  Walks over layer 6's reference: Refine, Stable. No condition.
-/
import Derived.Test.YtkcbahfmdokalaaRf
namespace Go.Proofs.Ytkcbahfmdokalaa
open Go.RowKit
attribute [local go_sem] onto_cell onto_frozen
set_option linter.unusedVariables false
/-- What is marked: elements up to this one that agree with it. -/
def agF (p : List Int) (next : List (List Int)) (i k : Nat) : Int := if k ≤ i ∧ agB p next i k = true then 1 else 0
theorem agF_one (p : List Int) (next : List (List Int)) (i k : Nat) (h : k ≤ i) : agF p next i k = 1 ↔ Agree p next i k := by
  unfold agF
  rw [← agB_iff]
  by_cases hb : agB p next i k = true
  · simp [h, hb]
  · simp [hb]
theorem markG_cut (p : List Int) (next : List (List Int)) (i n : Nat) : rowF n (markG (agF p next) i (i + 1)) = rowF n (markG (agF p next) i n) := by
  refine rowF_congr fun j hj => ?_
  unfold markG
  by_cases h1 : j < i + 1
  · rw [if_pos h1, if_pos hj]
  · rw [if_neg h1, if_pos hj]
    unfold agF
    rw [if_neg (by omega)]
theorem numStep_refine {n : Nat} {p : List Int} {next : List (List Int)} (hp : Pt n p) (hl : next.length = n) : NumStep n (refineL p next) (fun i => (firsts [] ((keysR p next).take i)).length) (fun i k => Agree p next i k) := by
  have hk : (keysR p next).length = n := by simp [keysR, hp.len, hl]
  have := numStep_of (keysR p next) (fun i k => Agree p next i k) fun i k hi hk' => by
    have h1 := refine_ker hp hl (i := i) (j := k) (by omega) (by omega)
    rw [← h1]
    unfold refineL
    rw [getD_num (by rw [numb_length]; omega), getD_num (by rw [numb_length]; omega), numb_ker (keysR p next) (by omega) (by omega)]
  rw [hk] at this
  exact this
set_option maxRecDepth 100000 in
set_option maxHeartbeats 8000000 in
theorem refineR_l (a b : Option Addr) (n cap cap2 : Nat) (p : List Int) (next : List (List Int)) (w : World) (h : Ints w a n p) (h2 : Rows w b n next) (hp : Pt n p) (hl : NextOk n next) (hn : n ≤ 1024) :
    Calls Try.prog 50 #[.slice a n cap, .slice b n cap2] w fun e w' => ∃ v, e = .returned v ∧ GotInts w w' v (refineL p next) := by
  obtain ⟨i0, hi, hz0, hz1, hz2⟩ := info22_parts
  have HX := hide h
  have HY := hide h2
  have HP := hide hp
  have HNx := hide hl
  have HAg : Hid (∀ w' i k v, Keeps Non w w' → i < n → k < n → agB p next i k = v → Calls Try.prog 67 #[.slice a n cap, .slice b n cap2, .int .i64 (i : Int), .int .i64 (k : Int)] w' fun e w2 => e = .returned (.bool v) ∧ Keeps Non w' w2) := fun w' i k v hk hi1 hk1 hv => agree_l a b n cap cap2 p next i k v w' (h.non hk) (h2.non hk) hl hi1 hk1 hv hn
  clear h h2 hp hl
  go_enter Try.func50, Try.ntmps50
  go_wp2_with fail
  go_loopw [6, 5] (fun i v wr => ∃ (k : Nat) (S : List Value), k ≤ n ∧ i = .int .i64 k ∧ Hid (wr.ownsRow w.heap.size 22 1 v k S) ∧ Hid (Kids wr S ((tabL n (agF p next)).take k) v.ownBlock) ∧ Hid (Keeps Non w wr)) (fun i _ _ => n - (intOf i).toNat)
  case atStart => exact ⟨0, [], by omega, rfl, World.ownsRow_nil _ _ _ _, kids_none _ _ _, Keeps.refl _ _⟩
  case round =>
    obtain ⟨k, S, hk, rfl, HO, HKd, HK⟩ := hrel
    by_cases hlt : k < n
    · have hms := make22 wr n (by omega)
      obtain ⟨R, hR⟩ : ∃ B, wr.heap.size = B := ⟨_, rfl⟩
      have HRs := hide hR
      have HR0 : Hid (Blk (wr.alloc (.cells (Array.replicate n (.int .i64 0)) 3)) R (rowF n (markG (agF p next) k 0)) 3) := by
        have e : rowF n (markG (agF p next) k 0) = List.replicate n (.int .i64 0) := by
          rw [← rowF_zero]
          exact rowF_congr fun j _ => by simp [markG]
        rw [e, ← List.toArray_replicate]
        exact Blk.newAt wr (List.replicate n (.int .i64 0)) 3 hR.symm
      have HK0 := hide ((Keeps.refl Non wr).alloc (.cells (Array.replicate n (.int .i64 0)) 3))
      obtain ⟨w0, hw0⟩ : ∃ w0, wr = w0 := ⟨_, rfl⟩
      have HW0 := hide hw0
      have k0 : (0 : Int) ≤ (k : Int) := by omega
      have k1 : (k : Int) < (n : Int) := by omega
      clear hw0 hR
      go_wp2_with fail
      rw [HRs.out]
      obtain ⟨W, hW⟩ : ∃ W, wr.alloc (.cells (Array.replicate n (.int .i64 0)) 3) = W := ⟨_, rfl⟩
      rw [hW] at HR0 HK0 hms
      try rw [hW]
      clear hW hms
      go_wp2_with fail
      go_loopw [8] (fun t wi => ∃ (m : Nat), m ≤ k + 1 ∧ t = .int .i64 m ∧ Hid (Blk wi R (rowF n (markG (agF p next) k m)) 3) ∧ Hid (Keeps Non w0 wi)) (fun t _ => k + 1 - (intOf t).toNat)
      case atStart => exact ⟨0, by omega, rfl, HR0.out, by rw [HW0.out] at HK0; exact HK0.out⟩
      case round =>
        rw [HW0.out] at HO HKd HK HRs
        clear HR0 HK0
        obtain ⟨m, hm, rfl, HB, HKi⟩ := hrel
        by_cases hlm : m < k + 1
        · have cB : wr.cell? ⟨R, m, none⟩ = some (.int .i64 (markG (agF p next) k m m)) := by rw [HB.out.cell]; exact rowF_at _ (by omega)
          have fB := HB.out.free m none
          have lB := HB.out.lt
          have m0 : (0 : Int) ≤ (m : Int) := by omega
          have m1 : (m : Int) < (n : Int) := by omega
          have m2 : (m : Int) ≤ (k : Int) := by omega
          have HBu : Hid (∀ u, Keeps Non wr u → u.cell? ⟨R, m, none⟩ = some (.int .i64 (markG (agF p next) k m m)) ∧ u.frozen? ⟨R, m, none⟩ = false ∧ R < u.heap.size) := fun u hu => ⟨(hu.cell (p := ⟨R, m, none⟩) lB (fun x => x)).trans cB, (hu.frozen (p := ⟨R, m, none⟩) lB (fun x => x)).trans fB, Nat.lt_of_lt_of_le lB hu.size⟩
          obtain ⟨v, hv⟩ : ∃ v, agB p next k m = v := ⟨_, rfl⟩
          have HC := hide (HAg.out wr k m v (HK.out.then HKi.out) hlt (by omega) hv)
          cases v with
          | true =>
            have HM := hide (markG_yes (agF p next) k m n 1 (by unfold agF; rw [if_pos ⟨by omega, hv⟩]))
            clear hv
            go_wp2_with fail
            refine HC.out.mono ?_
            rintro e w4 ⟨rfl, hk4⟩
            have KO := hide hk4
            obtain ⟨cB2, fB2, lB2⟩ := HBu.out _ hk4
            clear hk4
            go_wp2_with fail
            go_roundw
            case rel => exact ⟨m + 1, by omega, by go_num, by
              have h1 := (HB.out.keeps KO.out (fun x => x)).store m (.int .i64 1)
              rw [rowF_set, HM.out] at h1
              exact h1, (HKi.out.then KO.out).set (b := R) (.inr (by have := HRs.out; omega)) _⟩
            case measure => simp [intOf]; omega
          | false =>
            have HM := hide (markG_no (agF p next) k m n (by unfold agF; rw [if_neg (by rw [hv]; simp)]))
            clear hv
            go_wp2_with fail
            refine HC.out.mono ?_
            rintro e w4 ⟨rfl, hk4⟩
            have KO := hide hk4
            clear hk4
            go_wp2_with fail
            go_roundw
            case rel => exact ⟨m + 1, by omega, by go_num, by
              have h1 := HB.out.keeps KO.out (fun x => x)
              rw [HM.out] at h1
              exact h1, HKi.out.then KO.out⟩
            case measure => simp [intOf]; omega
        · obtain rfl : m = k + 1 := by omega
          have y9 : ¬ (k : Int) + 1 ≤ (k : Int) := by omega
          have hB := HB.out
          rw [markG_cut, markG_end] at hB
          have hI := ints_of_blk hB (by simp; omega)
          have hll : ((List.range n).map fun j => agF p next k j).length = n := by simp
          rw [hll] at hI
          have hrow : (tabL n (agF p next)).getD k [] = (List.range n).map fun j => agF p next k j := tabL_row _ hlt
          rw [← hrow] at hI hll
          have HI := hide hI
          have HLL := hide hll
          clear hB hI hll hrow
          go_wp2_with (at_builtin; refine wpList_append_own_at _ rfl _ _ 36 rfl w.heap.size 22 i0 (.slice none 0 0) 1 24 Try.underlying36 hi hz0 hz1 hz2 rfl (by decide) _ k S rfl (owns_keeps HO.out (HKi.out.alloc _) (fun _ _ x => x)) ⟨wr.heap.size, 0, none⟩ 1 1 [.slice (some ⟨R, 0, none⟩) n n] rfl ?qc1 ?qc2 ?qc3 ?qc4 ?qc5 ?qc6 ?_)
          case qc3 => first | rfl | (intro u hu; simp at hu; subst hu; rfl)
          case qc4 => unfold maxLen; omega
          case qc5 => omega
          case qc6 => (try simp); have := HK.out.size; have := HKi.out.size; omega
          intro v' w5 hown hgrow hnil hat
          have HO5 := hide hown
          have HKd5 := hide (kids_push (c4 := n) (v' := v') HKd.out HO.out (by rw [List.length_take, tabL_length]; omega) (HKi.out.alloc (.cells #[.slice (some ⟨R, 0, none⟩) n n] 22)) HLL.out (HI.out.non ((Keeps.refl Non _).alloc _)) (fun b o e => by
            cases e
            have := HI.out
            have h1 := HB.out.lt
            have h2 := HRs.out
            rw [World.size_alloc]
            omega) hgrow (by rw [World.size_alloc]; exact hat))
          rw [← take_snocL (by rw [tabL_length]; exact hlt)] at HKd5
          have HKn : Hid (Keeps Non w w5) := keeps_grown ((HK.out.then HKi.out).alloc _) hgrow (fun g hg => .inr (own_ge HO.out g hg))
          clear hown hgrow hnil hat
          go_wp2_with fail
          go_roundw
          case rel => exact ⟨k + 1, _, by omega, by go_num, HO5.out, HKd5.out, HKn.out⟩
          case measure => simp [intOf]; omega
    · obtain rfl : n = k := by omega
      have y9 : ¬ (n : Int) < (n : Int) := by omega
      have hxl : p.length = n := HX.out.len
      have hKd := HKd.out
      rw [List.take_of_length_le (by rw [tabL_length]; exact Nat.le_refl _)] at hKd
      obtain ⟨a6, c6, rfl, hR⟩ := kids_rows hKd HO.out (tabL_length _ _) (by omega)
      have hst := numStep_refine HP.out HNx.out.1
      have HC := hide (numR_l a6 n c6 (tabL n (agF p next)) (refineL p next) _ _ wr hR (by omega) hst (fun i hi => by rw [tabL_len _ hi]; omega) (fun i k hk hi => by rw [tabL_at _ hi (by omega)]; exact agF_one p next i k (by omega)))
      clear hKd hR hst hxl
      go_wp2_with fail
      refine HC.out.mono ?_
      rintro e w4 ⟨v, rfl, a7, c7, rfl, hI, hk4⟩
      have HE : Hid (GotInts w w4 (.slice a7 (refineL p next).length c7) (refineL p next)) := ⟨a7, c7, rfl, hI, HK.out.then hk4⟩
      clear hI hk4
      go_wp2_with fail
      go_ret
      exact ⟨_, rfl, HE.out⟩
theorem stableR_l (a b : Option Addr) (n cap cap2 : Nat) (p : List Int) (next : List (List Int)) (v : Bool) (w : World) (h : Ints w a n p) (h2 : Rows w b n next) (hp : Pt n p) (hl : NextOk n next) (hn : n ≤ 1024) (hv : decide (refineL p next = p) = v) :
    Calls Try.prog 51 #[.slice a n cap, .slice b n cap2] w fun e w' => e = .returned (.bool v) ∧ Keeps Non w w' := by
  have HR := hide (refineR_l a b n cap cap2 p next w h h2 hp hl hn)
  have PA : Hid (Pt n (refineL p next)) := refine_pt hp hl.1
  have hcc : decide (cnt (refineL p next) = cnt p) = v := by
    rw [← hv]
    exact decide_eq_decide.2 (stable_cnt hp hl.1)
  have HI := hide h
  have HP := hide hp
  obtain ⟨k1, hk1⟩ : ∃ k, cnt p = k := ⟨_, rfl⟩
  obtain ⟨k2, hk2⟩ : ∃ k, cnt (refineL p next) = k := ⟨_, rfl⟩
  rw [hk1, hk2] at hcc
  have hcl := cnt_le_length p
  have hcl2 := cnt_le_length (refineL p next)
  rw [hp.len] at hcl
  rw [PA.out.len] at hcl2
  have HCC := hide hcc
  have H1 := hide hk1
  have H2 := hide hk2
  clear h h2 hp hl hv hcc hk1 hk2
  go_enter Try.func51, Try.ntmps51
  go_wp2_with fail
  refine HR.out.mono ?_
  rintro e w2 ⟨_, rfl, a2, c2, rfl, hI, hk⟩
  rw [PA.out.len] at hI ⊢
  have hC2 := countR_l a2 n c2 _ w2 hI PA.out hn
  rw [H2.out] at hC2
  have HC2 := hide hC2
  have hC3 := countR_l a n cap p w2 (HI.out.non hk) HP.out hn
  rw [H1.out] at hC3
  have HC3 := hide hC3
  have HK := hide hk
  clear hI hC2 hC3 hk
  go_wp2_with fail
  refine HC2.out.mono ?_
  rintro e _ ⟨rfl, rfl⟩
  go_wp2_with fail
  refine HC3.out.mono ?_
  rintro e _ ⟨rfl, rfl⟩
  go_wp2_with fail
  go_ret
  refine ⟨?_, HK.out⟩
  have e := HCC.out
  rw [← e]
  by_cases hkk : k2 = k1
  · simp [hkk]
  · have : ¬ (k2 : Int) = (k1 : Int) := by omega
    simp [hkk]
    omega
end Go.Proofs.Ytkcbahfmdokalaa
