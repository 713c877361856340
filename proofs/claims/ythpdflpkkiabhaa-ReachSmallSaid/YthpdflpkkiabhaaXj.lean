/-
  The reference: Closed, Closure. No condition. The reference: Closure. No condition. The reference: Only. No condition.
-/
import Derived.Test.YthpdflpkkiabhaaXd
import Derived.Test.YthpdflpkkiabhaaPk
import Derived.Test.YthpdflpkkiabhaaXb
import Derived.Test.YthpdflpkkiabhaaOn
import Derived.Test.YthpdflpkkiabhaaCp
import Derived.Test.YthpdflpkkiabhaaPy
namespace Go.Proofs.Ythpdflpkkiabhaa
section
open Go.RowKit
attribute [local go_sem] onto_cell onto_frozen
set_option linter.unusedVariables false
theorem closed_iff {next : List (List Int)} {l : List Int} (hc : checkB next = true) (hl : ∀ x ∈ l, 0 ≤ x ∧ x < (next.length : Int)) : closedB next next.length l = decide (closedP next l) := by
  rw [closedB_eq hc hl]
  by_cases h : closedP next l
  · rw [decide_eq_true h, decide_eq_true_iff]
    refine rise_ext (closureL_rise hc hl) (comp_rise l) fun x => ?_
    rw [closureL_mem hc hl, comp_mem]
    constructor
    · rintro ⟨a, ha, hav⟩
      induction hav with
      | refl _ => exact ha
      | step _ h2 _ ih => exact h _ ih _ h2
    · intro hx
      exact ⟨x, hx, .refl (by have := hl x hx; omega)⟩
  · rw [decide_eq_false h, decide_eq_false_iff_not]
    intro e2
    refine h fun p hp t ht => ?_
    rw [← comp_mem l t, ← e2, closureL_mem hc hl]
    have hp0 := hl p hp
    have := checkB_succ hc p hp0 t ht
    exact ⟨p, hp, .step (.refl (by omega)) ht (by omega)⟩
set_option maxRecDepth 100000 in
set_option maxHeartbeats 4000000 in
theorem refclosed_l (a b : Option Addr) (n cap m cap2 : Nat) (next : List (List Int)) (l : List Int) (w : World) (h : Rows w a n next) (h2 : Ints w b m l) (hl : ∀ x ∈ l, 0 ≤ x ∧ x < (n : Int)) (hm : m ≤ 1000) (hsh : ∀ i, (next.getD i []).length ≤ 200) :
    Calls Try.prog 60 #[.slice a n cap, .slice b m cap2] w fun e w' => e = .returned (.bool (decide (closedP next l))) ∧ Keeps Non w w' := by
  have HX := hide h
  have HY := hide h2
  have HL := hide hl
  have HSh := hide hsh
  clear h h2 hl hsh
  go_enter Try.func60, Try.ntmps60
  go_wp2_with fail
  go_loopw [5] (fun t wr => ∃ i : Nat, i ≤ m ∧ t = .int .i64 i ∧ Hid (Keeps Non w wr) ∧ Hid (∀ p ∈ l.take i, ∀ t ∈ succL next p, t ∈ l)) (fun t _ => m - (intOf t).toNat)
  case atStart => exact ⟨0, by omega, rfl, Keeps.refl _ _, fun p hp => by simp at hp⟩
  case round =>
    obtain ⟨i, hi, rfl, HK, HA⟩ := hrel
    have hlen : l.length = m := HY.out.len
    by_cases hlt : i < m
    · have hmem : l.getD i 0 ∈ l := by rw [getD_num (by omega)]; exact List.getElem_mem _
      have hts := take_has (xs := l) (k := i) (by omega)
      obtain ⟨x, hx⟩ : ∃ x, l.getD i 0 = x := ⟨_, rfl⟩
      rw [hx] at hmem hts
      have hxb := HL.out x hmem
      obtain ⟨pi, rfl⟩ := Int.eq_ofNat_of_zero_le hxb.1
      have hpn : pi < n := by omega
      have hsl : succL next (pi : Int) = next.getD pi [] := by unfold succL; rw [Int.toNat_natCast]
      have hrl := HSh.out pi
      obtain ⟨ll, hll⟩ : ∃ y, next.getD pi [] = y := ⟨_, rfl⟩
      obtain ⟨ln, hln⟩ : ∃ y, ll.length = y := ⟨_, rfl⟩
      rw [hll] at hsl hrl
      rw [hln] at hrl
      have HX2 := hide hx
      have HLl := hide hll
      have HLn := hide hln
      have HSl := hide hsl
      have HTs := hide hts
      have HMm := hide hmem
      have i0 : (0 : Int) ≤ (i : Int) := by omega
      have i1 : (i : Int) < (m : Int) := by omega
      have p0 : (0 : Int) ≤ (pi : Int) := by omega
      have p1 : (pi : Int) < (n : Int) := by omega
      clear hmem hts hx hsl hll hln hlen
      go_wp2_with fail
      have HK0 := hide HK.out
      go_loopw [6] (fun t wr => ∃ q : Nat, q ≤ ln ∧ t = .int .i64 q ∧ Hid (Keeps Non w wr) ∧ Hid (∀ t ∈ ll.take q, t ∈ l)) (fun t _ => ln - (intOf t).toNat)
      case atStart => exact ⟨0, by omega, rfl, HK0.out, fun t ht => by simp at ht⟩
      case round =>
        clear HK HK0
        obtain ⟨q, hq, rfl, HK, HB⟩ := hrel
        obtain ⟨b1, o1, hb1, lb1, hc1⟩ := (HY.out.non HK.out).at (by omega)
        subst hb1
        have ci' := hc1 i hlt
        rw [HX2.out] at ci'
        obtain ⟨b2, o2, hb2, lb2, hc2⟩ := (HX.out.non HK.out).at (by omega)
        subst hb2
        obtain ⟨ai, ci, cr, hI⟩ := hc2 pi hpn
        rw [HLl.out, HLn.out] at cr hI
        have hll := HLn.out
        by_cases hql : q < ln
        · obtain ⟨b3, o3, hb3, lb3, hc3⟩ := hI.at (by omega)
          subst hb3
          have cq := hc3 q hql
          have hta := take_mem_all (P := fun t => t ∈ l) (xs := ll) (k := q) (by omega) HB.out
          have hmem : ll.getD q 0 ∈ ll := by rw [getD_num (by omega)]; exact List.getElem_mem _
          obtain ⟨x, hx⟩ : ∃ x, ll.getD q 0 = x := ⟨_, rfl⟩
          rw [hx] at cq hta hmem
          have HH := hide (has_l (some ⟨b1, o1, none⟩) m cap2 l x wr (HY.out.non HK.out))
          have q0 : (0 : Int) ≤ (q : Int) := by omega
          have q1 : (q : Int) < (ln : Int) := by omega
          by_cases hin : x ∈ l
          · rw [decide_eq_true hin] at HH
            have HB2 := hide (hta hin)
            clear hc1 hc2 hI hc3 hta hmem hx hll hin
            go_wp2_with fail
            refine HH.out.mono ?_
            rintro e w4 ⟨rfl, hk4⟩
            have HK4 := hide (HK.out.then hk4)
            clear hk4 HH
            go_wp2_with fail
            go_roundw
            case rel => exact ⟨q + 1, by omega, by go_num, HK4.out, HB2.out⟩
            case measure => simp [intOf]; omega
          · rw [decide_eq_false hin] at HH
            have HE : Hid (decide (closedP next l) = false) := by
              show _ = _
              rw [decide_eq_false_iff_not]
              intro hcp
              exact hin (hcp pi HMm.out x (by rw [HSl.out]; exact hmem))
            clear hc1 hc2 hI hc3 hta hmem hx hll hin
            go_wp2_with fail
            refine HH.out.mono ?_
            rintro e w4 ⟨rfl, hk4⟩
            have HK4 := hide (HK.out.then hk4)
            clear hk4 HH
            go_wp2_with fail
            try rw [Exit.noGoto_ret]
            go_ret
            exact ⟨ret_bool (by rw [HE.out]), HK4.out⟩
        · have hqq : q = ln := by omega
          subst hqq
          have y8 : ¬ (q : Int) < (q : Int) := by omega
          have HA2 : Hid (∀ p ∈ l.take (i + 1), ∀ t ∈ succL next p, t ∈ l) := fun p hp t ht => by
            rcases (HTs.out p).1 hp with h1 | h1
            · exact HA.out p h1 t ht
            · subst h1
              rw [HSl.out] at ht
              exact HB.out t (by rw [List.take_of_length_le (by omega)]; exact ht)
          clear hc1 hc2 hI hll
          go_wp2_with fail
          go_roundw
          case rel => exact ⟨i + 1, by omega, by go_num, HK.out, HA2.out⟩
          case measure => simp [intOf]; omega
    · have hii : i = m := by omega
      subst hii
      have y8 : ¬ (i : Int) < (i : Int) := by omega
      have HE : Hid (decide (closedP next l) = true) := by
        show _ = _
        rw [decide_eq_true_iff]
        intro p hp
        exact HA.out p (by rw [List.take_of_length_le (by omega)]; exact hp)
      clear hlen
      go_wp2_with fail
      try rw [Exit.noGoto_ret]
      go_ret
      exact ⟨ret_bool (by rw [HE.out]), HK.out⟩
/-- Whether a point is reached from one of the first ones. -/
def cloB (next : List (List Int)) (n : Nat) (l : List Int) (i p : Nat) : Bool := (l.take i).any fun x => decide (0 ≤ (waysL next n x).getD p 0)
def cloI (next : List (List Int)) (n : Nat) (l : List Int) (i p : Nat) : Int := if cloB next n l i p = true then 1 else 0
theorem cloB_zero (next : List (List Int)) (n : Nat) (l : List Int) (p : Nat) : cloB next n l 0 p = false := by simp [cloB]
theorem cloB_succ {next : List (List Int)} {n : Nat} {l : List Int} {i p : Nat} (h : i < l.length) {x : Int} (hx : l.getD i 0 = x) : cloB next n l (i + 1) p = (cloB next n l i p || decide (0 ≤ (waysL next n x).getD p 0)) := by
  unfold cloB
  rw [List.take_succ_eq_append_getElem h, List.any_append, ← getD_num h, hx]
  simp
def cloR (next : List (List Int)) (n : Nat) (l : List Int) (m : Nat) : List Int := ((List.range m).filter fun p => cloB next n l l.length p).map fun (p : Nat) => (p : Int)
theorem cloR_yes {next : List (List Int)} {n : Nat} {l : List Int} {m : Nat} (h : cloB next n l l.length m = true) : cloR next n l (m + 1) = cloR next n l m ++ [(m : Int)] := by
  unfold cloR
  rw [List.range_succ, List.filter_append, List.map_append, List.filter_cons_of_pos (by simpa using h)]
  rfl
theorem cloR_no {next : List (List Int)} {n : Nat} {l : List Int} {m : Nat} (h : ¬ cloB next n l l.length m = true) : cloR next n l (m + 1) = cloR next n l m := by
  unfold cloR
  rw [List.range_succ, List.filter_append, List.map_append, List.filter_cons_of_neg (by simpa using h)]
  simp
theorem cloR_length (next : List (List Int)) (n : Nat) (l : List Int) (m : Nat) : (cloR next n l m).length ≤ m := by
  unfold cloR
  rw [List.length_map]
  exact Nat.le_trans (List.length_filter_le _ _) (by simp)
theorem closure_cloR {next : List (List Int)} {l : List Int} (hc : checkB next = true) (hl : ∀ x ∈ l, 0 ≤ x ∧ x < (next.length : Int)) : closureL next next.length l = cloR next next.length l next.length := by
  refine rise_ext (closureL_rise hc hl) (range_rise _ _) fun x => ?_
  have hp := closureL_pts hc hl x
  have key : ∀ (p : Nat), p < next.length → ∀ y ∈ l, (0 ≤ (waysL next next.length y).getD p 0 ↔ Av (succL next) (-1) y p) := fun p hpn y hy => by
    rw [((finds hc (hl y hy)).far p hpn).1]
    unfold fromL
    rw [found_mem (checkB_succ hc) (fun z hz => by rw [List.mem_singleton.1 hz]; exact hl y hy)]
    simp only [List.mem_singleton, exists_eq_left]
  constructor
  · intro h
    have hxb := hp h
    obtain ⟨y, hy, hav⟩ := (closureL_mem hc hl x).1 h
    refine List.mem_map.2 ⟨x.toNat, ?_, by omega⟩
    rw [List.mem_filter, List.mem_range]
    refine ⟨by omega, ?_⟩
    unfold cloB
    rw [List.take_length]
    refine List.any_eq_true.2 ⟨y, hy, ?_⟩
    rw [decide_eq_true_iff, key x.toNat (by omega) y hy, show ((x.toNat : Nat) : Int) = x by omega]
    exact hav
  · intro h
    obtain ⟨p, hp2, rfl⟩ := List.mem_map.1 h
    rw [List.mem_filter, List.mem_range] at hp2
    obtain ⟨h1, h2⟩ := hp2
    unfold cloB at h2
    rw [List.take_length] at h2
    obtain ⟨y, hy, h3⟩ := List.any_eq_true.1 h2
    rw [decide_eq_true_iff, key p h1 y hy] at h3
    exact (closureL_mem hc hl p).2 ⟨y, hy, h3⟩
end
section
open Go.RowKit
attribute [local go_sem] onto_cell onto_frozen
set_option linter.unusedVariables false
set_option maxRecDepth 100000 in
set_option maxHeartbeats 4000000 in
theorem refclosure_l (a b : Option Addr) (n cap m cap2 : Nat) (next : List (List Int)) (l : List Int) (w : World) (h : Rows w a n next) (h2 : Ints w b m l) (hc : checkB next = true) (hl : ∀ x ∈ l, 0 ≤ x ∧ x < (n : Int)) (hn : n ≤ 25) (hm : m ≤ 1000) (hsh : ∀ i, (next.getD i []).length ≤ 200) :
    Calls Try.prog 61 #[.slice a n cap, .slice b m cap2] w fun e w' => ∃ v, e = .returned v ∧ OwnI w w' v (closureL next n l) := by
  obtain ⟨i0, hi, hz0, hz1, hz2⟩ := info3_parts
  have HX := hide h
  have HY := hide h2
  have HL := hide hl
  have HC := hide hc
  have HSh := hide hsh
  have HLe := hide h2.len
  have HWl := hide (fun x : Int => (show (waysL next n x).length = n from goW_length _ _))
  have hcl := closure_cloR hc (l := l) (by rw [h.len]; exact hl)
  rw [h.len] at hcl
  have HCl := hide hcl
  have hms := make25 w n (by omega)
  obtain ⟨R, hR⟩ : ∃ B, w.heap.size = B := ⟨_, rfl⟩
  have HRs := hide hR
  have HB0 : Hid (Blk (w.alloc (.cells (Array.replicate n (.int .i64 0)) 3)) R ((List.replicate n (0 : Int)).map (Value.int .i64)) 3) := by
    rw [List.map_replicate, ← List.toArray_replicate]
    exact Blk.newAt w (List.replicate n (.int .i64 0)) 3 hR.symm
  have HK0 := hide ((Keeps.refl Non w).alloc (.cells (Array.replicate n (.int .i64 0)) 3))
  have HF0 : Hid (∀ p, p < n → (List.replicate n (0 : Int)).getD p 0 = cloI next n l 0 p) := fun p hp => by
    rw [getD_num (by simpa using hp), List.getElem_replicate, cloI, if_neg (by rw [cloB_zero]; simp)]
  clear h h2 hc hl hsh hcl hR
  go_enter Try.func61, Try.ntmps61
  go_wp2_with fail
  rw [HRs.out]
  obtain ⟨W0, hW0⟩ : ∃ W, w.alloc (.cells (Array.replicate n (.int .i64 0)) 3) = W := ⟨_, rfl⟩
  rw [hW0] at HB0 HK0 hms
  try rw [hW0]
  clear hW0 hms
  go_wp2_with fail
  go_loopw [6] (fun t wr => ∃ (i : Nat) (F : List Int), i ≤ m ∧ t = .int .i64 i ∧ F.length = n ∧ Hid (∀ p, p < n → F.getD p 0 = cloI next n l i p) ∧ Hid (Blk wr R (F.map (Value.int .i64)) 3) ∧ Hid (Keeps Non w wr)) (fun t _ => m - (intOf t).toNat)
  case atStart => exact ⟨0, _, by omega, rfl, by simp, HF0.out, HB0.out, HK0.out⟩
  case round =>
    clear HF0 HB0 HK0
    obtain ⟨i, F, hi2, rfl, hFl, HF, HB, HK⟩ := hrel
    by_cases hlt : i < m
    · obtain ⟨b1, o1, hb1, lb1, hc1⟩ := (HY.out.non HK.out).at (by omega)
      subst hb1
      have ci' := hc1 i hlt
      have hmem : l.getD i 0 ∈ l := by rw [getD_num (by rw [HLe.out]; exact hlt)]; exact List.getElem_mem _
      have hcs := fun p => cloB_succ (next := next) (n := n) (l := l) (i := i) (p := p) (by rw [HLe.out]; exact hlt) rfl
      obtain ⟨x, hx⟩ : ∃ x, l.getD i 0 = x := ⟨_, rfl⟩
      rw [hx] at ci' hmem hcs
      have hxb := HL.out x hmem
      obtain ⟨pi, rfl⟩ := Int.eq_ofNat_of_zero_le hxb.1
      have hpn : pi < n := by omega
      have HW := hide (refways_l a n cap next pi wr (HX.out.non HK.out) HC.out hpn hn (fun i => by have := HSh.out i; omega))
      have hwl := HWl.out (pi : Int)
      obtain ⟨Wx, hWx⟩ : ∃ W, waysL next n (pi : Int) = W := ⟨_, rfl⟩
      rw [hWx] at HW hwl hcs
      have HCs := hide hcs
      have HWl2 := hide hwl
      have i0' : (0 : Int) ≤ (i : Int) := by omega
      have i1 : (i : Int) < (m : Int) := by omega
      clear hc1 hmem hcs hx hWx hwl hxb
      go_wp2_with fail
      refine HW.out.mono ?_
      rintro e w4 ⟨v, rfl, bS, rfl, hbS, hBS, hk4⟩
      rw [HWl2.out]
      have HBS := hide hBS
      have HB4 := hide (HB.out.non hk4)
      have HK4 := hide (HK.out.then hk4)
      have hbR : bS ≠ R := by have := HB.out.lt; omega
      have HF4 : Hid (∀ p, p < n → F.getD p 0 = if p < 0 then cloI next n l (i + 1) p else cloI next n l i p) := fun p hp => by rw [if_neg (by omega)]; exact HF.out p hp
      have HFl := hide hFl
      clear hBS hk4 hbS HW HB HK HF hFl ci'
      go_wp2_with fail
      go_loopw [8] (fun t wx => ∃ (p : Nat) (F2 : List Int), p ≤ n ∧ t = .int .i64 p ∧ F2.length = n ∧ Hid (∀ j, j < n → F2.getD j 0 = if j < p then cloI next n l (i + 1) j else cloI next n l i j) ∧ Hid (Blk wx R (F2.map (Value.int .i64)) 3) ∧ Hid (Blk wx bS (Wx.map (Value.int .i64)) 3) ∧ Hid (Keeps Non w wx)) (fun t _ => n - (intOf t).toNat)
      case atStart => exact ⟨0, F, by omega, rfl, HFl.out, HF4.out, HB4.out, HBS.out, HK4.out⟩
      case round =>
        clear HFl HF4 HB4 HBS HK4
        obtain ⟨p, F2, hp, rfl, hFl, HF, HB, HBS, HK⟩ := hrel
        by_cases hpl : p < n
        · have cS := HBS.out.atI (t := p) (by rw [HWl2.out]; exact hpl)
          have lS := HBS.out.lt
          have cB := HB.out.atI (t := p) (by omega)
          have fB := HB.out.free p none
          have lB := HB.out.lt
          have hcs := HCs.out p
          obtain ⟨z, hz⟩ : ∃ z, Wx.getD p 0 = z := ⟨_, rfl⟩
          rw [hz] at cS hcs
          have p0 : (0 : Int) ≤ (p : Int) := by omega
          have p1 : (p : Int) < (n : Int) := by omega
          by_cases hz0 : 0 ≤ z
          · have HF2 : Hid (∀ j, j < n → (F2.set p 1).getD j 0 = if j < p + 1 then cloI next n l (i + 1) j else cloI next n l i j) := fun j hj => by
              rw [getD_set (by omega)]
              by_cases hjp : p = j
              · subst hjp
                rw [if_pos rfl, if_pos (by omega), cloI, if_pos]
                rw [hcs]
                simp [hz0]
              · rw [if_neg hjp, HF.out j hj]
                by_cases h1 : j < p
                · rw [if_pos h1, if_pos (by omega)]
                · rw [if_neg h1, if_neg (by omega)]
            clear hcs hz
            go_wp2_with fail
            go_roundw
            case rel => exact ⟨p + 1, F2.set p 1, by omega, by go_num, by simp [hFl], HF2.out, HB.out.putI p 1, HBS.out.other hbR _, HK.out.set (b := R) (.inr (by have := HRs.out; omega)) _⟩
            case measure => simp [intOf]; omega
          · have HF2 : Hid (∀ j, j < n → F2.getD j 0 = if j < p + 1 then cloI next n l (i + 1) j else cloI next n l i j) := fun j hj => by
              rw [HF.out j hj]
              by_cases hjp : p = j
              · subst hjp
                rw [if_neg (by omega), if_pos (by omega)]
                unfold cloI
                rw [hcs]
                simp [hz0]
              · by_cases h1 : j < p
                · rw [if_pos h1, if_pos (by omega)]
                · rw [if_neg h1, if_neg (by omega)]
            clear hcs hz
            go_wp2_with fail
            go_roundw
            case rel => exact ⟨p + 1, F2, by omega, by go_num, hFl, HF2.out, HB.out, HBS.out, HK.out⟩
            case measure => simp [intOf]; omega
        · have hpp : p = n := by omega
          subst hpp
          have y8 : ¬ (p : Int) < (p : Int) := by omega
          have HF2 : Hid (∀ j, j < p → F2.getD j 0 = cloI next p l (i + 1) j) := fun j hj => by
            have := HF.out j hj
            rwa [if_pos hj] at this
          go_wp2_with fail
          go_roundw
          case rel => exact ⟨i + 1, F2, by omega, by go_num, hFl, HF2.out, HB.out, HK.out⟩
          case measure => simp [intOf]; omega
    · have hii : i = m := by omega
      subst hii
      have y8 : ¬ (i : Int) < (i : Int) := by omega
      obtain ⟨w3, hw3⟩ : ∃ w3, w3 = wr := ⟨_, rfl⟩
      subst hw3
      have HFl := hide hFl
      clear hFl
      go_wp2_with fail
      go_loopw [10, 9] (fun t u wx => ∃ (p : Nat), p ≤ n ∧ t = .int .i64 p ∧ Hid (wx.ownsRow w3.heap.size 3 1 u (cloR next n l p).length ((cloR next n l p).map (Value.int .i64))) ∧ Hid (Keeps Non w3 wx)) (fun t _ _ => n - (intOf t).toNat)
      case atStart => exact ⟨0, by omega, rfl, World.ownsRow_nil _ _ _ _, Keeps.refl _ _⟩
      case round =>
        obtain ⟨p, hp, rfl, HU, HKx⟩ := hrel
        have hul := cloR_length next n l p
        obtain ⟨ys, hys⟩ : ∃ y, cloR next n l p = y := ⟨_, rfl⟩
        obtain ⟨yl, hyl⟩ : ∃ y, ys.length = y := ⟨_, rfl⟩
        rw [hys, hyl] at HU hul
        have HYs := hide hys
        have HYl := hide hyl
        clear hys hyl
        obtain ⟨a9, c9, hv9⟩ := owns_slice HU.out
        subst hv9
        by_cases hpl : p < n
        · have cB := (HB.out.non HKx.out).atI (t := p) (by rw [HFl.out]; exact hpl)
          have lB := (HB.out.non HKx.out).lt
          rw [HF.out p hpl] at cB
          have p0 : (0 : Int) ≤ (p : Int) := by omega
          have p1 : (p : Int) < (n : Int) := by omega
          by_cases hcb : cloB next n l l.length p = true
          · have hone : cloI next n l i p = 1 := by rw [cloI, if_pos (by rw [← HLe.out]; exact hcb)]
            rw [hone] at cB
            have HE := hide (cloR_yes hcb)
            rw [HYs.out] at HE
            clear hone hcb
            go_wp2_with (at_builtin; refine wpList_append_own_at _ rfl _ _ 25 rfl w3.heap.size 3 i0 (.int .i64 0) 1 8 Try.underlying25 hi hz0 hz1 hz2 rfl (by decide) (.slice a9 yl c9) yl (ys.map (Value.int .i64)) rfl (owns_keeps HU.out ((Keeps.refl Non _).alloc _) (fun _ _ x => x)) ⟨wr.heap.size, 0, none⟩ 1 1 [.int .i64 (p : Int)] rfl ?qc1 ?qc2 ?qc3 ?qc4 ?qc5 ?qc6 ?_)
            try (case qc1 => rfl)
            try (case qc2 => exact cell_one_new _ _ _)
            case qc3 => first | rfl | (intro u hu; simp at hu; subst hu; rfl)
            case qc4 => unfold maxLen; omega
            case qc5 => omega
            case qc6 => (try simp); have := HKx.out.size; omega
            intro v' w5 hown hgrow hnil2 hat
            have HO5 := hide hown
            have HG5 := hide (keeps_grown (Keeps.refl (fun b => some b = Value.ownBlock (.slice a9 yl c9)) _) hgrow (fun g hg => .inl hg.symm))
            have HLt := hide (owns_here HU.out)
            clear hown hgrow hnil2 hat
            go_wp2_with fail
            go_roundw
            case rel => exact ⟨p + 1, by omega, by go_num, by rw [HE.out, List.length_append, List.map_append, HYl.out]; exact HO5.out, (HKx.out.alloc _).trans HG5.out (fun i hi e => by have := (HLt.out i e.symm).1; omega)⟩
            case measure => simp [intOf]; omega
          · have hone : cloI next n l i p = 0 := by rw [cloI, if_neg (by rw [← HLe.out]; exact hcb)]
            rw [hone] at cB
            have HE := hide (cloR_no hcb)
            rw [HYs.out] at HE
            clear hone hcb
            go_wp2_with fail
            go_roundw
            case rel => exact ⟨p + 1, by omega, by go_num, by rw [HE.out, HYl.out]; exact HU.out, HKx.out⟩
            case measure => simp [intOf]; omega
        · have hpp : p = n := by omega
          subst hpp
          have y9 : ¬ (p : Int) < (p : Int) := by omega
          go_wp2_with fail
          try rw [Exit.noGoto_ret]
          go_ret
          exact ⟨_, rfl, by rw [HCl.out, HYs.out, HYl.out]; exact owns_base HU.out HK.out.size, HK.out.then HKx.out⟩
end
section
open Go.RowKit
attribute [local go_sem] onto_cell onto_frozen
set_option linter.unusedVariables false
theorem idx_first {l : List Int} {j : Nat} {t : Int} (hj : j < l.length) (h : l.getD j 0 = t) (hn : ∀ i, i < j → l.getD i 0 ≠ t) : l.idxOf t = j := by
  have hm : t ∈ l := by rw [← h, getD_num hj]; exact List.getElem_mem _
  have h1 := getD_idx hm
  rcases Nat.lt_trichotomy (l.idxOf t) j with h2 | h2 | h2
  · exact absurd h1 (hn _ h2)
  · exact h2
  · exfalso
    have h3 := List.not_of_lt_findIdx (p := fun x => x == t) (xs := l) (i := j) (by unfold List.idxOf at h2; exact h2)
    rw [getD_num hj] at h
    simp [h] at h3
theorem rowO_length (next : List (List Int)) (l : List Int) (p : Int) : (rowO next l p).length = (succL next p).length := by simp [rowO]
theorem rowO_at {next : List (List Int)} {l : List Int} {p : Int} {q : Nat} (hq : q < (succL next p).length) {t : Int} (ht : (succL next p).getD q 0 = t) : (rowO next l p).getD q 0 = (l.idxOf t : Int) := by
  rw [getD_num (by rw [rowO_length]; exact hq)]
  unfold rowO
  rw [List.getElem_map, ← ht, getD_num hq]
set_option maxRecDepth 100000 in
set_option maxHeartbeats 8000000 in
theorem refonly_l (a b : Option Addr) (n cap m cap2 : Nat) (next : List (List Int)) (l : List Int) (w : World) (h : Rows w a n next) (h2 : Ints w b m l) (hc : checkB next = true) (hl : ∀ x ∈ l, 0 ≤ x ∧ x < (n : Int)) (hm : m ≤ 1000) (hroom : m ≤ cap2) (hsh : ∀ i, (next.getD i []).length ≤ 200) :
    Calls Try.prog 59 #[.slice a n cap, .slice b m cap2] w fun e w' => ∃ v, e = .returned (.tuple #[v, .int .i64 (onlyE next l)]) ∧ (onlyE next l = 0 → GotRows w w' v (onlyL next l)) ∧ (onlyE next l ≠ 0 → v = .slice none 0 0 ∧ Keeps Non w w') := by
  obtain ⟨i0, hi, hz0, hz1, hz2⟩ := info3_parts
  obtain ⟨i1, hj, hy0, hy1, hy2⟩ := info25_parts
  have HX := hide h
  have HY := hide h2
  have HL := hide hl
  have HSh := hide hsh
  have HLe := hide h2.len
  have HOl : Hid ((onlyL next l).length = m) := by show _ = _; rw [onlyL_length, h2.len]
  have HOa := hide (fun i (hi : i < m) => onlyL_at (next := next) (l := l) (i := i) (by rw [h2.len]; exact hi))
  have HCd := hide (fun w' (hk : Keeps Non w w') => refclosed_l a b n cap m cap2 next l w' (h.non hk) (h2.non hk) hl hm hsh)
  clear h h2 hc hl hsh
  go_enter Try.func59, Try.ntmps59
  go_wp2_with fail
  go_loopw [6] (fun t wr => ∃ i : Nat, i ≤ m ∧ t = .int .i64 i ∧ Hid (Keeps Non w wr) ∧ Hid ((l.take i).Nodup)) (fun t _ => m - (intOf t).toNat)
  case atStart => exact ⟨0, by omega, rfl, Keeps.refl _ _, (List.nodup_nil : ([] : List Int).Nodup)⟩
  case round =>
    obtain ⟨i, hi2, rfl, HK, HN⟩ := hrel
    by_cases hlt : i < m
    · obtain ⟨b1, o1, hb1, lb1, hc1⟩ := (HY.out.non HK.out).at (by omega)
      subst hb1
      have ci' := hc1 i hlt
      obtain ⟨x, hx⟩ : ∃ x, l.getD i 0 = x := ⟨_, rfl⟩
      rw [hx] at ci'
      have hpre := ints_pre (HY.out.non HK.out) (show i ≤ m by omega)
      have i0' : (0 : Int) ≤ (i : Int) := by omega
      have i1' : (i : Int) < (m : Int) := by omega
      have i2' : (i : Int) ≤ (cap2 : Int) := by omega
      have i3' : i ≤ cap2 := by omega
      obtain ⟨v, hv⟩ : ∃ v, decide (x ∈ l.take i) = v := ⟨_, rfl⟩
      have HH : Hid (∀ u, Calls Try.prog 73 #[.slice (some ⟨b1, o1, none⟩) i cap2, .int .i64 x] (onto wr u) fun e w' => e = .returned (.bool v) ∧ Keeps Non (onto wr u) w') := fun u => by
        have := has_l (some ⟨b1, o1, none⟩) i cap2 (l.take i) x (onto wr u) (hpre.non (onto_keeps _ u))
        rw [hv] at this
        exact this
      have HV := hide hv
      have HX2 := hide hx
      clear hc1 hpre hv hx
      cases v with
      | true =>
        have HE : Hid (onlyE next l = 2) := by
          show _ = _
          unfold onlyE
          rw [if_neg]
          refine not_nodup (k := i) (by rw [HLe.out]; exact hlt) ?_
          rw [HX2.out]
          exact of_decide_eq_true HV.out
        go_wp2_with fail
        refine wp_region_onto (by kernel_rfl) (by kernel_rfl) ?_
        repeat (go_big_quiet_step (first | (go_at_call 73; exact onto_call (HH.out _))))
        refine wpQuiet_nil ?_
        rintro _ ⟨u, rfl⟩
        go_wp2_with fail
        try rw [Exit.noGoto_ret]
        go_ret2
        exact ⟨.slice none 0 0, by rw [HE.out]; rfl, fun h0 => (by rw [HE.out] at h0; cases h0), fun _ => ⟨rfl, HK.out.then (onto_keeps _ _)⟩⟩
      | false =>
        have HN2 : Hid ((l.take (i + 1)).Nodup) := nodup_snoc (by rw [HLe.out]; exact hlt) HN.out (by rw [HX2.out]; exact of_decide_eq_false HV.out)
        go_wp2_with fail
        refine wp_region_onto (by kernel_rfl) (by kernel_rfl) ?_
        repeat (go_big_quiet_step (first | (go_at_call 73; exact onto_call (HH.out _))))
        refine wpQuiet_nil ?_
        rintro _ ⟨u, rfl⟩
        go_wp2_with fail
        go_roundw
        case rel => exact ⟨i + 1, by omega, by go_num, HK.out.then (onto_keeps _ _), HN2.out⟩
        case measure => simp [intOf]; omega
    · have hii : i = m := by omega
      subst hii
      have y8 : ¬ (i : Int) < (i : Int) := by omega
      have HNd : Hid l.Nodup := by
        have := HN.out
        rwa [List.take_of_length_le (by rw [HLe.out]; exact Nat.le_refl _)] at this
      have HC1 := hide (HCd.out wr HK.out)
      by_cases hcp : closedP next l
      · rw [decide_eq_true hcp] at HC1
        have HE : Hid (onlyE next l = 0) := by show _ = _; unfold onlyE; rw [if_pos HNd.out, if_pos hcp]
        have HCp := hide hcp
        clear hcp
        go_wp2_with fail
        refine HC1.out.mono ?_
        rintro e w4 ⟨rfl, hk4⟩
        have HK4 := hide (HK.out.then hk4)
        clear hk4 HC1 HK
        go_wp2_with fail
        go_loopw [8, 7] (fun t v wr => ∃ (p : Nat) (S : List Value), p ≤ i ∧ t = .int .i64 p ∧ Hid (wr.ownsRow w.heap.size 25 1 v p S) ∧ Hid (Kids wr S ((onlyL next l).take p) v.ownBlock) ∧ Hid (Keeps Non w wr)) (fun t _ _ => i - (intOf t).toNat)
        case atStart => exact ⟨0, [], by omega, rfl, World.ownsRow_nil _ _ _ _, kids_none _ _ _, HK4.out⟩
        case round =>
          clear HK4
          obtain ⟨p, S, hp, rfl, HO, HKd, HK⟩ := hrel
          by_cases hpi : p < i
          · have hmem : l.getD p 0 ∈ l := by rw [getD_num (by rw [HLe.out]; exact hpi)]; exact List.getElem_mem _
            have hoa := HOa.out p hpi
            obtain ⟨x, hx⟩ : ∃ x, l.getD p 0 = x := ⟨_, rfl⟩
            rw [hx] at hmem hoa
            have hxb := HL.out x hmem
            obtain ⟨xi, rfl⟩ := Int.eq_ofNat_of_zero_le hxb.1
            have hxn : xi < n := by omega
            have hsl : succL next (xi : Int) = next.getD xi [] := by unfold succL; rw [Int.toNat_natCast]
            have hrl := HSh.out xi
            obtain ⟨ll, hll⟩ : ∃ y, next.getD xi [] = y := ⟨_, rfl⟩
            obtain ⟨ln, hln⟩ : ∃ y, ll.length = y := ⟨_, rfl⟩
            rw [hll] at hsl hrl
            rw [hln] at hrl
            have hrol := rowO_length next l (xi : Int)
            rw [hsl, hln] at hrol
            have HRa := hide (fun q (hq : q < ln) t (ht : ll.getD q 0 = t) => rowO_at (next := next) (l := l) (p := (xi : Int)) (q := q) (by rw [hsl, hln]; exact hq) (t := t) (by rw [hsl]; exact ht))
            have HRl := hide hrol
            have HX2 := hide hx
            have HLl := hide hll
            have HLn := hide hln
            have HIn : Hid (∀ t ∈ ll, t ∈ l) := fun t ht => HCp.out xi hmem t (by rw [hsl]; exact ht)
            have HOa2 := hide hoa
            have p0 : (0 : Int) ≤ (p : Int) := by omega
            have p1 : (p : Int) < (i : Int) := by omega
            have x0 : (0 : Int) ≤ (xi : Int) := by omega
            have x1 : (xi : Int) < (n : Int) := by omega
            obtain ⟨w3, hw3⟩ : ∃ w3, w3 = wr := ⟨_, rfl⟩
            subst hw3
            clear hmem hoa hx hsl hll hln hrol
            go_wp2_with fail
            go_loopw [10, 9] (fun t u wy => ∃ (q : Nat), q ≤ ln ∧ t = .int .i64 q ∧ Hid (wy.ownsRow w3.heap.size 3 1 u q (((rowO next l xi).take q).map (Value.int .i64))) ∧ Hid (Keeps Non w3 wy)) (fun t _ _ => ln - (intOf t).toNat)
            case atStart => exact ⟨0, by omega, rfl, World.ownsRow_nil _ _ _ _, Keeps.refl _ _⟩
            case round =>
              obtain ⟨q, hq, rfl, HU, HKy⟩ := hrel
              obtain ⟨a9, c9, hv9⟩ := owns_slice HU.out
              subst hv9
              have hk := HK.out.then HKy.out
              obtain ⟨b1, o1, hb1, lb1, hc1⟩ := (HY.out.non hk).at (by omega)
              subst hb1
              have cp := hc1 p hpi
              rw [HX2.out] at cp
              obtain ⟨b2, o2, hb2, lb2, hc2⟩ := (HX.out.non hk).at (by omega)
              subst hb2
              obtain ⟨ai, ci, cr, hI⟩ := hc2 xi hxn
              rw [HLl.out, HLn.out] at cr hI
              by_cases hql : q < ln
              · have hmem : ll.getD q 0 ∈ ll := by rw [getD_num (by rw [HLn.out]; exact hql)]; exact List.getElem_mem _
                have hra := fun t ht => HRa.out q hql t ht
                obtain ⟨t, ht⟩ : ∃ t, ll.getD q 0 = t := ⟨_, rfl⟩
                rw [ht] at hmem
                have htl := HIn.out t hmem
                have hix := List.idxOf_lt_length_of_mem htl
                rw [HLe.out] at hix
                have hgi := getD_idx htl
                have hra2 := hra t ht
                have hts := take_snocI (N := rowO next l xi) (i := q) (by rw [HRl.out]; exact hql) hra2
                obtain ⟨ix, hixe⟩ : ∃ ix, l.idxOf t = ix := ⟨_, rfl⟩
                rw [hixe] at hix hgi hts
                have HTs := hide hts
                have HIx := hide hixe
                have HGi := hide hgi
                have HTt := hide ht
                have q0 : (0 : Int) ≤ (q : Int) := by omega
                have q1 : (q : Int) < (ln : Int) := by omega
                have HU1 := hide HU.out
                have HKy1 := hide HKy.out
                clear hc1 hc2 hI hmem hra ht htl hgi hra2 hts hixe hk
                go_wp2_with fail
                clear cp cr lb1 lb2
                go_loopw [11] (fun t9 wj => ∃ (j : Nat), j ≤ ix ∧ t9 = .int .i64 j ∧ Hid (∀ k, k < j → l.getD k 0 ≠ t) ∧ Hid (wj.ownsRow w3.heap.size 3 1 (.slice a9 q c9) q (((rowO next l xi).take q).map (Value.int .i64))) ∧ Hid (Keeps Non w3 wj)) (fun t9 _ => i - (intOf t9).toNat)
                case atStart => exact ⟨0, by omega, rfl, fun k hk => by omega, HU1.out, HKy1.out⟩
                case round =>
                  clear HU HKy HU1 HKy1
                  obtain ⟨j, hj2, rfl, HNo, HU, HKy⟩ := hrel
                  have hk := HK.out.then HKy.out
                  obtain ⟨b1', o1', hb1, lb1, hc1⟩ := (HY.out.non hk).at (by omega)
                  cases hb1
                  have cp := hc1 p hpi
                  rw [HX2.out] at cp
                  have cj := hc1 j (by omega)
                  obtain ⟨b2', o2', hb2, lb2, hc2⟩ := (HX.out.non hk).at (by omega)
                  cases hb2
                  obtain ⟨ai', ci2, cr, hI⟩ := hc2 xi hxn
                  rw [HLl.out, HLn.out] at cr hI
                  obtain ⟨b3, o3, hb3, lb3, hc3⟩ := hI.at (by omega)
                  subst hb3
                  have cq := hc3 q hql
                  rw [HTt.out] at cq
                  obtain ⟨y, hy⟩ : ∃ y, l.getD j 0 = y := ⟨_, rfl⟩
                  rw [hy] at cj
                  have j0 : (0 : Int) ≤ (j : Int) := by omega
                  have j1 : (j : Int) < (i : Int) := by omega
                  by_cases hyt : y = t
                  · have hje : j = ix := by
                      rw [← HIx.out]
                      exact (idx_first (by rw [HLe.out]; omega) (by rw [hy]; exact hyt) HNo.out).symm
                    subst hje
                    have g1 : (y != t) = false := by simp [hyt]
                    clear hc1 hc2 hI hc3 hy hk
                    go_wp2_with fail
                    refine wp_region_onto (by kernel_rfl) (by kernel_rfl) ?_
                    repeat (go_big_quiet_step (fail))
                    refine wpQuiet_nil ?_
                    rintro _ ⟨u, rfl⟩
                    obtain ⟨x9, hx9⟩ : ∃ z, onto wr u = z := ⟨_, rfl⟩
                    have hk9 := onto_keeps wr u
                    rw [hx9] at hk9 ⊢
                    have HU9 := hide (owns_keeps HU.out hk9 (fun _ _ x => x))
                    have HK9 := hide (HKy.out.then hk9)
                    clear hx9 hk9 hyt g1 cp cj cr cq lb1 lb2 lb3
                    go_wp2_with (at_builtin; refine wpList_append_own_at _ rfl _ _ 25 rfl w3.heap.size 3 i0 (.int .i64 0) 1 8 Try.underlying25 hi hz0 hz1 hz2 rfl (by decide) (.slice a9 q c9) q (((rowO next l xi).take q).map (Value.int .i64)) rfl (owns_keeps HU9.out ((Keeps.refl Non _).alloc _) (fun _ _ x => x)) ⟨x9.heap.size, 0, none⟩ 1 1 [.int .i64 (j : Int)] rfl ?qc1 ?qc2 ?qc3 ?qc4 ?qc5 ?qc6 ?_)
                    try (case qc1 => rfl)
                    try (case qc2 => exact cell_one_new _ _ _)
                    case qc3 => first | rfl | (intro u hu; simp at hu; subst hu; rfl)
                    case qc4 => unfold maxLen; omega
                    case qc5 => omega
                    case qc6 => (try simp); have := HK9.out.size; omega
                    intro v' w5 hown hgrow hnil2 hat
                    have HO5 := hide hown
                    have HG5 := hide (keeps_grown (Keeps.refl (fun b => some b = Value.ownBlock (.slice a9 q c9)) _) hgrow (fun g hg => .inl hg.symm))
                    have HLt := hide (owns_here HU9.out)
                    clear hown hgrow hnil2 hat
                    go_wp2_with fail
                    go_roundw
                    case rel => exact ⟨q + 1, by omega, by go_num, by rw [HTs.out, List.map_append, List.map_take]; exact HO5.out, (HK9.out.alloc _).trans HG5.out (fun i hi e => by have := (HLt.out i e.symm).1; omega)⟩
                    case measure => simp [intOf]; omega
                  · have hne : j ≠ ix := by
                      rintro rfl
                      exact hyt (by rw [← hy]; exact HGi.out)
                    have g1 : (y != t) = true := by simp [hyt]
                    have HN2 : Hid (∀ k, k < j + 1 → l.getD k 0 ≠ t) := fun k hk => by
                      by_cases hkj : k = j
                      · subst hkj; rw [hy]; exact hyt
                      · exact HNo.out k (by omega)
                    clear hc1 hc2 hI hc3 hy hk
                    go_wp2_with fail
                    refine wp_region_onto (by kernel_rfl) (by kernel_rfl) ?_
                    repeat (go_big_quiet_step (fail))
                    refine wpQuiet_nil ?_
                    rintro _ ⟨u, rfl⟩
                    go_wp2_with fail
                    go_roundw
                    case rel => exact ⟨j + 1, by omega, by go_num, HN2.out, owns_keeps HU.out (onto_keeps _ _) (fun _ _ x => x), HKy.out.then (onto_keeps _ _)⟩
                    case measure => simp [intOf]; omega
              · have hqq : q = ln := by omega
                subst hqq
                have y9 : ¬ (q : Int) < (q : Int) := by omega
                have hu := HU.out
                rw [List.take_of_length_le (by rw [HRl.out]; exact Nat.le_refl _)] at hu
                obtain ⟨a8, c8, hv8, hI8⟩ := ints_of_owns hu (by omega)
                cases hv8
                have HI := hide hI8
                have HLu := hide (owns_lt HU.out)
                have HSn := hide (take_snocR (xss := onlyL next l) (k := p) (by rw [HOl.out]; exact hpi) HOa2.out)
                clear hc1 hc2 hI hI8 hu hk
                go_wp2_with (at_builtin; refine wpList_append_own_at _ rfl _ _ 23 rfl w.heap.size 25 i1 (.slice none 0 0) 1 24 Try.underlying23 hj hy0 hy1 hy2 rfl (by decide) _ p S rfl (owns_keeps HO.out (HKy.out.alloc _) (fun _ _ x => x)) ⟨wr.heap.size, 0, none⟩ 1 1 [.slice a9 q c9] rfl ?qd1 ?qd2 ?qd3 ?qd4 ?qd5 ?qd6 ?_)
                try (case qd1 => rfl)
                try (case qd2 => exact cell_one_new _ _ _)
                case qd3 => first | rfl | (intro u hu; simp at hu; subst hu; rfl)
                case qd4 => unfold maxLen; omega
                case qd5 => omega
                case qd6 => (try simp); have := HK.out.size; have := HKy.out.size; omega
                intro v' w5 hown hgrow hnil hat
                have HO5 := hide hown
                have HKd5 := hide (kids_push (c4 := c9) (v' := v') HKd.out HO.out (by rw [List.length_take, HOl.out]; omega) (HKy.out.alloc (.cells #[.slice a9 q c9] 25)) HRl.out (HI.out.non ((Keeps.refl Non _).alloc _)) (fun b o e => by
                  subst e
                  have := HLu.out b rfl
                  rw [World.size_alloc]
                  omega) hgrow (by rw [World.size_alloc]; exact hat))
                have HKn : Hid (Keeps Non w w5) := keeps_grown ((HK.out.then HKy.out).alloc _) hgrow (fun g hg => .inr (own_ge HO.out g hg))
                clear hown hgrow hnil hat
                go_wp2_with fail
                go_roundw
                case rel => exact ⟨p + 1, _, by omega, by go_num, HO5.out, by rw [HSn.out]; exact HKd5.out, HKn.out⟩
                case measure => simp [intOf]; omega
          · have hpp : p = i := by omega
            subst hpp
            have y9 : ¬ (p : Int) < (p : Int) := by omega
            have hKd := HKd.out
            rw [List.take_of_length_le (by rw [HOl.out]; exact Nat.le_refl _)] at hKd
            obtain ⟨a6, c6, hv6, hR⟩ := kids_rows hKd HO.out HOl.out (by omega)
            subst hv6
            have HG : Hid (GotRows w wr (.slice a6 p c6) (onlyL next l)) := ⟨a6, c6, by rw [HOl.out], by rw [HOl.out]; exact hR, HK.out⟩
            clear hKd hR
            go_wp2_with fail
            try rw [Exit.noGoto_ret]
            go_ret2
            exact ⟨.slice a6 p c6, by rw [HE.out]; rfl, fun _ => HG.out, fun h0 => absurd HE.out h0⟩
      · rw [decide_eq_false hcp] at HC1
        have HE : Hid (onlyE next l = 71) := by show _ = _; unfold onlyE; rw [if_pos HNd.out, if_neg hcp]
        clear hcp
        go_wp2_with fail
        refine HC1.out.mono ?_
        rintro e w4 ⟨rfl, hk4⟩
        have HK4 := hide (HK.out.then hk4)
        clear hk4 HC1
        go_wp2_with fail
        try rw [Exit.noGoto_ret]
        go_ret2
        exact ⟨.slice none 0 0, by rw [HE.out]; rfl, fun h0 => (by rw [HE.out] at h0; cases h0), fun _ => ⟨rfl, HK4.out⟩⟩
end
end Go.Proofs.Ythpdflpkkiabhaa
