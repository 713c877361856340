/-
  Walks over layer 7: Back. No condition.
-/
import Derived.Test.YthpdflpkkiabhaaCk
import Derived.WalkMore
import Derived.Scope
namespace Go.Proofs.Ythpdflpkkiabhaa
open Go.RowKit
attribute [local go_sem] onto_cell onto_frozen
set_option linter.unusedVariables false
def stepB (p : Int) (out : List (List Int)) (t : Int) : List (List Int) := if (out.getD t.toNat []).getLast? = some p then out else out.set t.toNat (out.getD t.toNat [] ++ [p])
def rowB (p : Int) (out : List (List Int)) (l : List Int) : List (List Int) := l.foldl (stepB p) out
def backTo (next : List (List Int)) (n : Nat) : Nat → List (List Int)
  | 0 => List.replicate n []
  | k + 1 => rowB k (backTo next n k) (next.getD k [])
/-- What Back returns. -/
def backL (next : List (List Int)) (n : Nat) : List (List Int) := backTo next n n
theorem stepB_length (p : Int) (out : List (List Int)) (t : Int) : (stepB p out t).length = out.length := by
  unfold stepB
  split
  · rfl
  · simp
theorem rowB_length (p : Int) : ∀ (l : List Int) (out : List (List Int)), (rowB p out l).length = out.length
  | [], out => rfl
  | t :: l, out => by
    show (rowB p (stepB p out t) l).length = _
    rw [rowB_length p l, stepB_length]
theorem backTo_length (next : List (List Int)) (n : Nat) : ∀ k, (backTo next n k).length = n
  | 0 => by simp [backTo]
  | k + 1 => by rw [backTo, rowB_length, backTo_length next n k]
theorem rowB_snoc (p : Int) (out : List (List Int)) (l : List Int) (t : Int) : rowB p out (l ++ [t]) = stepB p (rowB p out l) t := by
  unfold rowB
  rw [List.foldl_append]
  rfl
theorem stepB_short (p : Int) (out : List (List Int)) (t : Int) (b m : Nat) (h : ∀ b, (out.getD b []).length ≤ m) : ((stepB p out t).getD b []).length ≤ m + 1 := by
  unfold stepB
  split
  · have := h b; omega
  · by_cases hb : t.toNat = b
    · subst hb
      by_cases hl : t.toNat < out.length
      · rw [List.getD_eq_getElem?_getD, List.getElem?_set_self hl]
        simp only [Option.getD_some, List.length_append, List.length_singleton]
        have := h t.toNat
        omega
      · rw [List.getD_eq_getElem?_getD, List.getElem?_eq_none (by rw [List.length_set]; omega)]
        simp
    · rw [List.getD_eq_getElem?_getD, List.getElem?_set_ne hb, ← List.getD_eq_getElem?_getD]
      have := h b
      omega
theorem rowB_short (p : Int) : ∀ (l : List Int) (out : List (List Int)) (m : Nat), (∀ b, (out.getD b []).length ≤ m) → ∀ b, ((rowB p out l).getD b []).length ≤ m + l.length
  | [], out, m, h => fun b => h b
  | t :: l, out, m, h => fun b => by
    have := rowB_short p l (stepB p out t) (m + 1) (fun b => stepB_short p out t b m h) b
    rw [List.length_cons]
    show ((rowB p (stepB p out t) l).getD b []).length ≤ _
    omega
theorem backTo_short (next : List (List Int)) (n : Nat) : ∀ k, k ≤ next.length → ∀ b, ((backTo next n k).getD b []).length ≤ total (next.take k)
  | 0, _ => fun b => by
    rw [backTo, List.getD_eq_getElem?_getD, List.getElem?_replicate]
    split <;> simp
  | k + 1, h => fun b => by
    rw [total_take_succ (by omega), backTo]
    exact rowB_short k _ _ _ (backTo_short next n k (by omega)) b
theorem total_row {next : List (List Int)} {k : Nat} (h : k < next.length) : total (next.take k) + (next.getD k []).length ≤ total next := by
  rw [← total_take_succ h]
  exact total_take_le _ _
set_option maxRecDepth 100000 in
set_option maxHeartbeats 4000000 in
theorem back_yes (a : Option Addr) (n cap : Nat) (next : List (List Int)) (w : World) (h : Rows w a n next) (hc : checkB next = true) :
    Calls Try.prog 31 #[.slice a n cap] w fun e w' => ∃ v, e = .returned (.tuple #[v, .int .i64 0]) ∧ NewRows w w' v (backL next n) := by
  obtain rfl := h.len
  have hck := checkB_iff.1 hc
  have HW := hide (check_l a next.length cap next w h)
  rw [show checkE next = 0 from if_pos hc] at HW
  obtain ⟨i0, hi, hz0, hz1, hz2⟩ := info3_parts
  have HX := hide h
  have HCk := hide hck
  obtain ⟨n, hn2⟩ : ∃ n, next.length = n := ⟨_, rfl⟩
  have HN := hide hn2
  have hn : n ≤ 1024 := by omega
  rw [hn2] at HW HX ⊢
  clear h hc hck hn2
  go_enter Try.func31, Try.ntmps31
  go_wp2_with fail
  refine HW.out.mono ?_
  rintro e w3 ⟨rfl, hk⟩
  have HK3 := hide hk
  have hms := make23 w3 n (by omega)
  obtain ⟨B, hB⟩ : ∃ B, w3.heap.size = B := ⟨_, rfl⟩
  have HBs : Hid (w.heap.size ≤ B) := by
    have := HK3.out.size
    show _ ≤ _
    omega
  have HA0 := hide (rowsAt_made w3 (n := n) hB)
  have HK4 := hide (HK3.out.alloc (.cells (List.replicate n (Value.slice none 0 0)).toArray 25))
  clear hk HW
  go_wp2_with fail
  obtain ⟨W, hW⟩ : ∃ W, w3.alloc (.cells (List.replicate n (Value.slice none 0 0)).toArray 25) = W := ⟨_, rfl⟩
  have hW2 := hW
  simp only [List.toArray_replicate] at hW2
  first | rw [hW] | rw [hW2]
  rw [hW] at HA0 HK4 hms
  try rw [hB]
  clear hW hW2 hB hms
  go_loopw [21] (fun i wr => ∃ (k : Nat) (S : List Value), k ≤ n ∧ i = .int .i64 k ∧ Hid (RowsAt wr B S (backTo next n k)) ∧ Hid (Keeps Non w wr)) (fun i _ => n - (intOf i).toNat)
  case atStart => exact ⟨0, _, by omega, rfl, HA0.out, HK4.out⟩
  case round =>
    clear HA0 HK4 HK3
    obtain ⟨k, S, hk, rfl, HA, HKr⟩ := hrel
    by_cases hlt : k < n
    · obtain ⟨b1, o1, rfl, hb1, hc1⟩ := HX.out.at (by omega)
      obtain ⟨ai, ci, hci0, hIi⟩ := hc1 k hlt
      have hci := (HKr.out.cell (p := ⟨b1, o1 + k, none⟩) hb1 (fun x => x)).trans hci0
      clear hci0
      have hbs := backTo_short next n k (by have := HN.out; omega)
      have htr := total_row (next := next) (k := k) (by have := HN.out; omega)
      have hrb : ∀ x ∈ next.getD k [], 0 ≤ x ∧ x < (n : Int) := fun x hx => by
        have := HCk.out.2.2 _ (getD_mem (by have := HN.out; omega)) x hx
        rw [HN.out] at this
        exact this
      have hbt : backTo next n (k + 1) = rowB k (backTo next n k) (next.getD k []) := rfl
      obtain ⟨l, hl⟩ : ∃ l, next.getD k [] = l := ⟨_, rfl⟩
      rw [hl] at hci hIi htr hrb hbt
      obtain ⟨q, hq⟩ : ∃ q, l.length = q := ⟨_, rfl⟩
      rw [hq] at hci hIi htr
      have htot := HCk.out.2.1
      have HIi := hide hIi
      have HBT := hide hbt
      have HSh := hide hbs
      have HRb := hide hrb
      have hqb : q ≤ 16384 := by omega
      have z0 : (0 : Int) ≤ (k : Int) := by omega
      have z1 : (k : Int) < (n : Int) := by omega
      have HTt : Hid (total (next.take k) + q ≤ 16384) := by show _ ≤ _; omega
      clear hc1 hIi hbt hbs hrb htr htot hl
      go_wp2_with fail
      go_step3
      go_wp2_with fail
      go_step3
      go_wp2_with fail
      clear hci
      go_loopw [28] (fun j wi => ∃ (r : Nat) (S2 : List Value), r ≤ q ∧ j = .int .i64 r ∧ Hid (RowsAt wi B S2 (rowB k (backTo next n k) (l.take r))) ∧ Hid (Keeps Non w wi)) (fun j _ => q - (intOf j).toNat)
      case atStart => exact ⟨0, S, by omega, rfl, HA.out, HKr.out⟩
      case round =>
        obtain ⟨r, S2, hr, rfl, HA2, HK2⟩ := hrel
        by_cases hrq : r < q
        · obtain ⟨b2, o2, hai, hb2, hc2⟩ := (HIi.out.non HK2.out).at (by omega)
          have cr := hc2 r hrq
          have hll := HIi.out.len
          obtain ⟨t, ht⟩ : ∃ t, l.getD r 0 = t := ⟨_, rfl⟩
          rw [ht] at cr
          have htb := HRb.out t (by rw [← ht, getD_num (by omega)]; exact List.getElem_mem _)
          obtain ⟨ti, rfl⟩ := Int.eq_ofNat_of_zero_le htb.1
          have htn : ti < n := by omega
          have HTk : Hid (l.take (r + 1) = l.take r ++ [(ti : Int)]) := take_snocI (by omega) ht
          have hcl : (rowB k (backTo next n k) (l.take r)).length = n := by rw [rowB_length, backTo_length]
          have hsh := rowB_short k (l.take r) (backTo next n k) _ HSh.out ti
          have hsb := rowB_snoc k (backTo next n k) (l.take r) ti
          rw [← HTk.out] at hsb
          obtain ⟨cur, hcur⟩ : ∃ cur, rowB k (backTo next n k) (l.take r) = cur := ⟨_, rfl⟩
          rw [hcur] at HA2 hcl hsh hsb
          obtain ⟨v, hv, ho⟩ := HA2.out.row ti (by omega)
          obtain ⟨ys, hys⟩ : ∃ ys, cur.getD ti [] = ys := ⟨_, rfl⟩
          rw [hys] at ho hsh
          unfold stepB at hsb
          rw [Int.toNat_natCast, hys] at hsb
          have hyl : ys.length ≤ 16384 := by
            rw [List.length_take] at hsh
            have := HTt.out
            omega
          have HO := hide ho
          have HV := hide hv
          have HSb := hide hsb
          have cb : wr.cell? ⟨B, ti, none⟩ = some v := by rw [HA2.out.blk.cell]; exact hv
          have fb := HA2.out.blk.free ti none
          have lb := HA2.out.blk.lt
          have t0 : (0 : Int) ≤ (ti : Int) := by omega
          have t1 : (ti : Int) < (n : Int) := by omega
          have r0 : (0 : Int) ≤ (r : Int) := by omega
          have r1 : (r : Int) < (q : Int) := by omega
          obtain ⟨av, cv, hvv, hIv⟩ := ints_of_owns ho (by omega)
          subst hai
          have HCl := hide hcl
          clear hc2 ht htb hsh hv ho hys hsb hll hcur hcl
          have HN5 : Hid (rowB k (backTo next n k) (l.take (r + 1)) = cur.set ti (ys ++ [(k : Int)]) → ∀ v' w5, w5.ownsRow (B + 1) 3 1 v' (ys.length + 1) ((ys.map (Value.int .i64)) ++ [.int .i64 (k : Int)]) → (wr.alloc (.cells #[.int .i64 (k : Int)] 3)).grownBy w5 v.ownBlock → (v'.ownBlock = v.ownBlock ∨ v'.ownBlock = some (wr.alloc (.cells #[.int .i64 (k : Int)] 3)).heap.size) →
              Hid (RowsAt (w5.setCell ⟨B, ti, none⟩ v') B (S2.set ti v') (rowB k (backTo next n k) (l.take (r + 1)))) ∧ Hid (Keeps Non w (w5.setCell ⟨B, ti, none⟩ v')) ∧ w5.cell? ⟨B, ti, none⟩ = some v ∧ w5.frozen? ⟨B, ti, none⟩ = false ∧ B < w5.heap.size) := fun hS v' w5 hown hgrow hat => by
            have hgB : some B ≠ v.ownBlock := fun e => by
              have := own_ge HO.out B e.symm
              omega
            refine ⟨?_, ?_, ?_, ?_, ?_⟩
            · show RowsAt _ _ _ _
              rw [hS]
              refine HA2.out.put (by rw [HCl.out]; exact htn) HV.out ((Keeps.refl Non wr).alloc _) ?_ hgrow (hat.imp id fun e g hg => ?_)
              · rw [List.length_append, List.map_append]
                exact hown
              · rw [e] at hg
                cases hg
                simp
            · exact (keeps_grown (HK2.out.alloc _) hgrow (fun g hg => .inr (by have := own_ge HO.out g hg; have := HBs.out; omega))).set (.inr HBs.out) _
            · exact (World.cell?_of_block (w := wr.alloc (.cells #[.int .i64 k] 3)) (hgrow.block B (by simp; omega) hgB)).trans ((((Keeps.refl Non wr).alloc (.cells #[.int .i64 k] 3)).cell (p := ⟨B, ti, none⟩) lb (fun x => x)).trans cb)
            · exact (World.frozen?_of_block (w := wr.alloc (.cells #[.int .i64 k] 3)) (hgrow.block B (by simp; omega) hgB)).trans ((((Keeps.refl Non wr).alloc (.cells #[.int .i64 k] 3)).frozen (p := ⟨B, ti, none⟩) lb (fun x => x)).trans fb)
            · have := hgrow.size; simp at this; omega
          subst hvv
          by_cases hy0 : ys.length = 0
          · have hyn : ys = [] := List.eq_nil_of_length_eq_zero hy0
            subst hyn
            replace HN5 := hide (HN5.out (by rw [HSb.out, if_neg (by simp)]))
            clear hIv
            simp only [List.length_nil, Nat.zero_add] at cb HO HN5
            go_wp2_with (at_builtin; refine wpList_append_own_at _ rfl _ _ 25 rfl (B + 1) 3 i0 (.int .i64 0) 1 8 Try.underlying25 hi hz0 hz1 hz2 rfl (by decide) (.slice av 0 cv) 0 (([] : List Int).map (Value.int .i64)) rfl (owns_keeps HO.out ((Keeps.refl Non _).alloc _) (fun _ _ x => x)) ⟨wr.heap.size, 0, none⟩ 1 1 [.int .i64 k] rfl rfl (cell_one_new _ _ _) (by intro u hu; simp at hu; subst hu; rfl) (by unfold maxLen; omega) (by omega) (by simp; omega) ?_; intro v' w5 hown hgrow hnil hat; obtain ⟨HRn, HKn, cb5, fb5, lb5⟩ := HN5.out v' w5 hown hgrow hat; obtain ⟨a5, c5, rfl⟩ := owns_slice hown; clear hown hgrow hnil hat)
            go_roundw
            case rel => exact ⟨r + 1, _, by omega, by go_num, HRn.out, HKn.out⟩
            case measure => simp [intOf]; omega
          · obtain ⟨g1, p1, hav, hg1, hcg⟩ := hIv.at (by omega)
            subst hav
            obtain ⟨y, hyy⟩ : ∃ y, ys.getD (ys.length - 1) 0 = y := ⟨_, rfl⟩
            have cl := hcg (ys.length - 1) (by omega)
            rw [hyy] at cl
            have hlast : ys.getLast? = some y := by
              rw [List.getLast?_eq_getElem?, List.getElem?_eq_getElem (by omega), ← hyy, getD_num (by omega)]
            rw [hlast] at HSb
            obtain ⟨ylen, hyq⟩ : ∃ q, ys.length = q := ⟨_, rfl⟩
            have HYq := hide hyq
            rw [hyq] at cl cb HO HN5 hyl hy0
            have y0 : (0 : Int) ≤ (ylen : Int) - 1 := by omega
            have y1 : (ylen : Int) - 1 < (ylen : Int) := by omega
            have y2 : ((ylen : Int) - 1).toNat = ylen - 1 := by omega
            have y3 : (0 : Int) < (ylen : Int) := by omega
            clear hcg hyy hlast hyq hIv
            by_cases hyk : y = (k : Int)
            · subst hyk
              have HS : Hid (rowB k (backTo next n k) (l.take (r + 1)) = cur) := by
                show _ = _
                rw [HSb.out, if_pos rfl]
              clear HN5
              go_wp2_with fail
              go_roundw
              case rel => exact ⟨r + 1, S2, by omega, by go_num, by show RowsAt _ _ _ _; rw [HS.out]; exact HA2.out, HK2.out⟩
              case measure => simp [intOf]; omega
            · have hne : (y == (k : Int)) = false := by simpa using hyk
              replace HN5 := hide (HN5.out (by rw [HSb.out, if_neg (by intro h; cases h; exact hyk rfl)]))
              go_wp2_with (at_builtin; refine wpList_append_own_at _ rfl _ _ 25 rfl (B + 1) 3 i0 (.int .i64 0) 1 8 Try.underlying25 hi hz0 hz1 hz2 rfl (by decide) _ ylen (ys.map (Value.int .i64)) rfl (owns_keeps HO.out ((Keeps.refl Non _).alloc _) (fun _ _ x => x)) ⟨wr.heap.size, 0, none⟩ 1 1 [.int .i64 k] rfl rfl (cell_one_new _ _ _) (by intro u hu; simp at hu; subst hu; rfl) (by unfold maxLen; omega) (by omega) (by simp; omega) ?_; intro v' w5 hown hgrow hnil hat; obtain ⟨HRn, HKn, cb5, fb5, lb5⟩ := HN5.out v' w5 hown hgrow hat; obtain ⟨a5, c5, rfl⟩ := owns_slice hown; clear hown hgrow hnil hat)
              go_roundw
              case rel => exact ⟨r + 1, _, by omega, by go_num, HRn.out, HKn.out⟩
              case measure => simp [intOf]; omega
        · have hrr : r = q := by omega
          subst hrr
          have y9 : ¬ (r : Int) < (r : Int) := by omega
          have HE : Hid (RowsAt wr B S2 (backTo next n (k + 1))) := by
            show RowsAt _ _ _ _
            have h := HA2.out
            rw [List.take_of_length_le (by rw [HIi.out.len]; exact Nat.le_refl _)] at h
            rw [HBT.out]
            exact h
          go_wp2_with fail
          go_roundw
          case rel => exact ⟨k + 1, S2, by omega, by go_num, HE.out, HK2.out⟩
          case measure => simp [intOf]; omega
    · have hkn : k = n := by omega
      subst hkn
      have y9 : ¬ (k : Int) < (k : Int) := by omega
      have HE : Hid (NewRows w wr (.slice (some ⟨B, 0, none⟩) k k) (backL next k)) :=
        ⟨B, S, by rw [backL, backTo_length], HBs.out, HA.out, HKr.out⟩
      go_wp2_with fail
      go_ret2
      exact ⟨_, rfl, HE.out⟩
theorem back_no (a : Option Addr) (n cap : Nat) (next : List (List Int)) (w : World) (h : Rows w a n next) (hc : ¬ checkB next = true) :
    Calls Try.prog 31 #[.slice a n cap] w fun e w' => e = .returned (.tuple #[.slice none 0 0, .int .i64 70]) ∧ Keeps Non w w' := by
  have HW := hide (check_l a n cap next w h)
  rw [show checkE next = 70 from if_neg hc] at HW
  clear h hc
  go_enter Try.func31, Try.ntmps31
  go_wp2_with fail
  refine HW.out.mono ?_
  rintro e w3 ⟨rfl, hk⟩
  go_wp2_with fail
  go_ret2
  exact ⟨rfl, hk⟩
end Go.Proofs.Ythpdflpkkiabhaa
