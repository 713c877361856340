/-
  Walks over layer 7's statements: Made. No condition.
-/
import Derived.Test.YthpdflpkkiabhaaBk
namespace Go.Proofs.Ythpdflpkkiabhaa
open Go.RowKit
attribute [local go_sem] onto_cell onto_frozen
set_option linter.unusedVariables false
def addE (N : Nat) (zs : List Int) (o : List (List Int)) (k : Nat) : List (List Int) := o.set (zs.getD (2 * k) 0 % N).toNat (o.getD (zs.getD (2 * k) 0 % N).toNat [] ++ [zs.getD (2 * k + 1) 0 % N])
def made2 (N : Nat) (zs : List Int) : Nat → List (List Int)
  | 0 => List.replicate N []
  | k + 1 => addE N zs (made2 N zs k) k
/-- What Made makes. -/
def madeN (n : Int) : Nat := 1 + (n % 20).toNat
def madeE (n : Int) (zs : List Int) : List (List Int) := made2 (madeN n) zs (min zs.length 120 / 2)
theorem made2_length (N : Nat) (zs : List Int) : ∀ k, (made2 N zs k).length = N
  | 0 => by simp [made2]
  | k + 1 => by rw [made2, addE, List.length_set, made2_length N zs k]
theorem made2_short (N : Nat) (zs : List Int) : ∀ k b, ((made2 N zs k).getD b []).length ≤ k
  | 0, b => by
    rw [made2, List.getD_eq_getElem?_getD, List.getElem?_replicate]
    split <;> simp
  | k + 1, b => by
    rw [made2, addE]
    by_cases hl : (zs.getD (2 * k) 0 % N).toNat < (made2 N zs k).length
    · rw [getD_set hl]
      split
      · rw [List.length_append, List.length_singleton]
        have := made2_short N zs k (zs.getD (2 * k) 0 % N).toNat
        omega
      · have := made2_short N zs k b; omega
    · rw [List.set_eq_of_length_le (by omega)]
      have := made2_short N zs k b
      omega
theorem made2_pts (N : Nat) (hN : 0 < N) (zs : List Int) : ∀ k b, ∀ q ∈ (made2 N zs k).getD b [], 0 ≤ q ∧ q < (N : Int)
  | 0, b => by
    intro q hq
    rw [made2, List.getD_eq_getElem?_getD, List.getElem?_replicate] at hq
    split at hq <;> simp at hq
  | k + 1, b => by
    intro q hq
    rw [made2, addE] at hq
    have ih := made2_pts N hN zs k
    by_cases hl : (zs.getD (2 * k) 0 % N).toNat < (made2 N zs k).length
    · rw [getD_set hl] at hq
      split at hq
      · rcases List.mem_append.1 hq with h | h
        · exact ih _ q h
        · rw [List.mem_singleton.1 h]
          exact ⟨Int.emod_nonneg _ (by omega), Int.emod_lt_of_pos _ (by omega)⟩
      · exact ih b q hq
    · rw [List.set_eq_of_length_le (by omega)] at hq
      exact ih b q hq
theorem total_set {o : List (List Int)} {p : Nat} {x : List Int} (h : p < o.length) : total (o.set p x) + (o.getD p []).length = total o + x.length := by
  unfold total
  induction o generalizing p with
  | nil => simp at h
  | cons a o ih =>
    cases p with
    | zero => simp; omega
    | succ p =>
      simp only [List.set_cons_succ, List.map_cons, List.sum_cons, List.getD_cons_succ]
      have := ih (p := p) (by simpa using h)
      omega
theorem made2_total (N : Nat) (zs : List Int) : ∀ k, total (made2 N zs k) ≤ k
  | 0 => by
    have : ∀ n, total (List.replicate n ([] : List Int)) = 0 := fun n => by
      unfold total
      rw [List.map_replicate]
      induction n with
      | zero => rfl
      | succ n ih => rw [List.replicate_succ, List.sum_cons, ih]; rfl
    rw [made2, this]
    exact Nat.le_refl _
  | k + 1 => by
    rw [made2, addE]
    have ih := made2_total N zs k
    by_cases hl : (zs.getD (2 * k) 0 % N).toNat < (made2 N zs k).length
    · have := total_set (x := (made2 N zs k).getD (zs.getD (2 * k) 0 % N).toNat [] ++ [zs.getD (2 * k + 1) 0 % N]) hl
      rw [List.length_append, List.length_singleton] at this
      omega
    · rw [List.set_eq_of_length_le (by omega)]
      omega
theorem madeN_bd (n : Int) : 1 ≤ madeN n ∧ madeN n ≤ 20 := by
  unfold madeN
  have := Int.emod_nonneg n (b := 20) (by omega)
  have := Int.emod_lt_of_pos n (b := 20) (by omega)
  omega
theorem madeE_length (n : Int) (zs : List Int) : (madeE n zs).length = madeN n := made2_length _ _ _
theorem madeE_check (n : Int) (zs : List Int) : checkB (madeE n zs) = true := by
  have hb := madeN_bd n
  refine checkB_iff.2 ⟨by rw [madeE_length]; omega, ?_, fun l hl x hx => ?_⟩
  · have := made2_total (madeN n) zs (min zs.length 120 / 2)
    unfold madeE
    omega
  · rw [madeE_length]
    obtain ⟨b, hb2, rfl⟩ := List.getElem_of_mem hl
    have := made2_pts (madeN n) (by omega) zs (min zs.length 120 / 2) b x
    refine this ?_
    have e : (made2 (madeN n) zs (min zs.length 120 / 2)).getD b [] = (madeE n zs)[b] := by
      rw [List.getD_eq_getElem?_getD]
      show (madeE n zs)[b]?.getD [] = _
      rw [List.getElem?_eq_getElem hb2]
      rfl
    rw [e]
    exact hx
set_option maxRecDepth 100000 in
set_option maxHeartbeats 4000000 in
theorem made_l (nn : Int) (a : Option Addr) (m cap : Nat) (zs : List Int) (w : World) (h : Byts w a m zs) (hnn : 0 ≤ nn ∧ nn ≤ 255) :
    Calls Try.prog 13 #[.int .u8 nn, .slice a m cap] w fun e w' => ∃ v, e = .returned v ∧ NewRows w w' v (madeE nn zs) := by
  obtain ⟨i0, hi, hz0, hz1, hz2⟩ := info3_parts
  have hbig := h.big
  have hzl := h.len
  subst hzl
  have HX := hide h
  have hb := madeN_bd nn
  obtain ⟨N, hN⟩ : ∃ N, madeN nn = N := ⟨_, rfl⟩
  have HN := hide hN
  obtain ⟨m, hm⟩ : ∃ m, zs.length = m := ⟨_, rfl⟩
  have HMl := hide hm
  rw [hN] at hb
  rw [hm] at HX hbig ⊢
  have e0 : nn.tmod 20 = (N : Int) - 1 := by
    rw [Int.tmod_eq_emod_of_nonneg hnn.1, ← hN, madeN]
    have := Int.emod_nonneg nn (b := 20) (by omega)
    omega
  have e1 : IntKind.u8.wrap ((N : Int) - 1) = (N : Int) - 1 := IntWalk.u8_in _ (by omega)
  have e2 : IntKind.i64.wrap ((N : Int) - 1) = (N : Int) - 1 := IntWalk.i64_in _ (by omega)
  have e3 : (1 : Int) + ((N : Int) - 1) = (N : Int) := by omega
  have hms := make23 w N (by omega)
  obtain ⟨B, hB⟩ : ∃ B, w.heap.size = B := ⟨_, rfl⟩
  have HBs : Hid (w.heap.size = B) := hB
  have HA0 := hide (rowsAt_made w (n := N) hB)
  have HK0 := hide ((Keeps.refl Non w).alloc (.cells (List.replicate N (Value.slice none 0 0)).toArray 25))
  clear hB h hN hm
  go_enter Try.func13, Try.ntmps13
  go_wp2_with fail
  rw [HBs.out]
  obtain ⟨W, hW⟩ : ∃ W, w.alloc (.cells (List.replicate N (Value.slice none 0 0)).toArray 25) = W := ⟨_, rfl⟩
  have hW2 := hW
  simp only [List.toArray_replicate] at hW2
  rw [hW] at HA0 HK0 hms
  first | rw [hW] | rw [hW2]
  clear hW hW2 hms e0 e1 e2 e3
  obtain ⟨lim, hlim⟩ : ∃ lim, min m 120 = lim := ⟨_, rfl⟩
  have HLi := hide hlim
  have hlm : lim ≤ m ∧ lim ≤ 120 := by omega
  have hmin : min (m : Int) 120 = (lim : Int) := by omega
  clear hlim
  go_loopw [6] (fun t wr => ∃ (k : Nat) (S : List Value), 2 * k ≤ lim ∧ t = .int .i64 ((2 * k : Nat) : Int) ∧ Hid (RowsAt wr B S (made2 N zs k)) ∧ Hid (Keeps Non w wr)) (fun t _ => 200 - (intOf t).toNat)
  case atStart => exact ⟨0, _, by omega, rfl, HA0.out, HK0.out⟩
  case round =>
    clear HA0 HK0
    obtain ⟨k, S, hk, rfl, HA, HK⟩ := hrel
    obtain ⟨j, hj⟩ : ∃ j, 2 * k = j := ⟨_, rfl⟩
    have HJ := hide hj
    rw [hj] at hk ⊢
    by_cases hlt : j + 1 < lim
    · have g1 : (j : Int) + 1 < (lim : Int) := by omega
      obtain ⟨b1, o1, rfl, hb1, hc1⟩ := (HX.out.non HK.out).at (by omega)
      have cA := hc1 j (by omega)
      have cB := hc1 (j + 1) (by omega)
      have bA := HX.out.bd j
      have bB := HX.out.bd (j + 1)
      have hst : made2 N zs (k + 1) = addE N zs (made2 N zs k) k := rfl
      unfold addE at hst
      rw [hj] at hst
      obtain ⟨x, hx⟩ : ∃ x, zs.getD j 0 = x := ⟨_, rfl⟩
      obtain ⟨y, hy⟩ : ∃ y, zs.getD (j + 1) 0 = y := ⟨_, rfl⟩
      rw [hx] at cA bA hst
      rw [hy] at cB bB hst
      have n0 : (0 : Int) < (N : Int) := by omega
      have n1 : ¬ (N : Int) = 0 := by omega
      have n3 : ¬ N = 0 := by omega
      have wx : IntKind.i64.wrap x = x := IntWalk.i64_in _ (by omega)
      have wy : IntKind.i64.wrap y = y := IntWalk.i64_in _ (by omega)
      have m0 := Int.emod_nonneg x n1
      have m1 := Int.emod_lt_of_pos x n0
      have m2 := Int.emod_nonneg y n1
      have m3 := Int.emod_lt_of_pos y n0
      have tx : x.tmod (N : Int) = x % (N : Int) := Int.tmod_eq_emod_of_nonneg bA.1
      have ty : y.tmod (N : Int) = y % (N : Int) := Int.tmod_eq_emod_of_nonneg bB.1
      obtain ⟨p, hp⟩ : ∃ p : Nat, x % (N : Int) = (p : Int) := ⟨(x % (N : Int)).toNat, by omega⟩
      obtain ⟨z, hz⟩ : ∃ z, y % (N : Int) = z := ⟨_, rfl⟩
      rw [hp] at tx hst m0 m1
      rw [hz] at ty hst m2 m3
      rw [Int.toNat_natCast] at hst
      have hpN : p < N := by omega
      have hml := made2_length N zs k
      obtain ⟨v, hv, ho⟩ := HA.out.row p (by omega)
      have hsh := made2_short N zs k p
      obtain ⟨ys, hys⟩ : ∃ ys, (made2 N zs k).getD p [] = ys := ⟨_, rfl⟩
      rw [hys] at ho hst hsh
      obtain ⟨q, hq⟩ : ∃ q, ys.length = q := ⟨_, rfl⟩
      rw [hq] at ho hsh
      have hqb : q ≤ 200 := by omega
      have HO := hide ho
      have HV := hide hv
      have HQ := hide hq
      have HF := hide hst
      have cb : wr.cell? ⟨B, p, none⟩ = some v := by rw [HA.out.blk.cell]; exact hv
      have fb := HA.out.blk.free p none
      have lb := HA.out.blk.lt
      have j0 : (0 : Int) ≤ (j : Int) := by omega
      have j1 : (j : Int) < (m : Int) := by omega
      have j2 : (j : Int) + 1 < (m : Int) := by omega
      have j3 : (0 : Int) ≤ (j : Int) + 1 := by omega
      have j4 : ((j : Int) + 1).toNat = j + 1 := by omega
      have wj : IntKind.i64.wrap ((j : Int) + 1) = (j : Int) + 1 := IntWalk.i64_in _ (by omega)
      obtain ⟨va, vc, rfl⟩ := owns_slice ho
      have hgB : some B ≠ (Value.slice va q vc).ownBlock := fun e => by
        have := own_ge HO.out B e.symm
        omega
      have HCb : Hid (∀ w5, (wr.drew.alloc (.cells #[.int .i64 z] 3)).grownBy w5 (Value.slice va q vc).ownBlock → w5.cell? ⟨B, p, none⟩ = some (.slice va q vc) ∧ w5.frozen? ⟨B, p, none⟩ = false ∧ B < w5.heap.size) := fun w5 hgrow => by
        refine ⟨?_, ?_, ?_⟩
        · exact (World.cell?_of_block (w := wr.drew.alloc (.cells #[.int .i64 z] 3)) (hgrow.block B (by simp; omega) hgB)).trans (((((Keeps.refl Non wr).drew).alloc (.cells #[.int .i64 z] 3)).cell (p := ⟨B, p, none⟩) lb (fun x => x)).trans cb)
        · exact (World.frozen?_of_block (w := wr.drew.alloc (.cells #[.int .i64 z] 3)) (hgrow.block B (by simp; omega) hgB)).trans (((((Keeps.refl Non wr).drew).alloc (.cells #[.int .i64 z] 3)).frozen (p := ⟨B, p, none⟩) lb (fun x => x)).trans fb)
        · have := hgrow.size
          simp at this
          omega
      clear hc1 hx hy hp hz hml hv ho hys hq hst hsh hgB hj
      go_wp2_with fail
      go_region_law (refine step_append_at rfl _ _ 25 rfl (B + 1) 3 i0 (.int .i64 0) 1 8 Try.underlying25 hi hz0 hz1 hz2 rfl (by decide) (.slice va q vc) q (ys.map (Value.int .i64)) (by rfl) (owns_keeps HO.out (((Keeps.refl Non wr).drew).alloc (.cells #[.int .i64 z] 3)) (fun _ _ x => x)) ⟨wr.heap.size, 0, none⟩ 1 1 [.int .i64 z] (by rfl) rfl (cell_one_new wr.drew _ _) (by intro u hu; simp at hu; subst hu; rfl) (by unfold maxLen; omega) (by omega) (by simp; omega) ?_; intro v' w5 hown hgrow hat; obtain ⟨a5, c5, rfl⟩ := owns_slice hown; obtain ⟨cb5, fb5, lb5⟩ := HCb.out w5 hgrow)
      all_goals
        have HAn : Hid (RowsAt (w5.setCell ⟨B, p, none⟩ (.slice a5 (q + 1) c5)) B (S.set p (.slice a5 (q + 1) c5)) (made2 N zs (k + 1))) := by
          show RowsAt _ _ _ _
          rw [HF.out]
          refine HA.out.put (by rw [made2_length]; exact hpN) HV.out (((Keeps.refl Non wr).drew).alloc _) ?_ hgrow (hat.imp id fun e g hg => ?_)
          · rw [List.length_append, List.map_append, HQ.out]
            exact hown
          · rw [e] at hg
            cases hg
            simp
        have HKn : Hid (Keeps Non w (w5.setCell ⟨B, p, none⟩ (.slice a5 (q + 1) c5))) := (keeps_grown ((HK.out.drew).alloc _) hgrow (fun g hg => .inr (by have := own_ge HO.out g hg; have := HBs.out; omega))).set (.inr (by have := HBs.out; omega)) _
        clear hown hgrow hat cb5 fb5 lb5
        go_wp2_with fail
        go_roundw
        case rel => exact ⟨k + 1, _, by have := HJ.out; omega, by have := HJ.out; go_num, HAn.out, HKn.out⟩
        case measure => simp [intOf]; omega
    · have g1 : ¬ (j : Int) + 1 < (lim : Int) := by omega
      have HE : Hid (NewRows w wr (.slice (some ⟨B, 0, none⟩) N N) (madeE nn zs)) := by
        have hkk : min zs.length 120 / 2 = k := by have := HMl.out; have := HLi.out; have := HJ.out; omega
        refine ⟨B, S, by rw [madeE_length, HN.out], by rw [HBs.out]; exact Nat.le_refl _, ?_, HK.out⟩
        unfold madeE
        rw [HN.out, hkk]
        exact HA.out
      go_wp2_with fail
      go_ret
      exact ⟨_, rfl, HE.out⟩
end Go.Proofs.Ythpdflpkkiabhaa
