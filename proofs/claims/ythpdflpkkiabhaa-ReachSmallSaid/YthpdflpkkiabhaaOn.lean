/-
  Walks over layer 7: Only. No condition.
-/
import Derived.Test.YthpdflpkkiabhaaWy
import Derived.Test.YthpdflpkkiabhaaBk
namespace Go.Proofs.Ythpdflpkkiabhaa
open Go.RowKit
attribute [local go_sem] onto_cell onto_frozen
set_option linter.unusedVariables false
/-- Where a point stands in a list, from 1 on; 0 where it does not. -/
def posF (m : List Int) (p : Nat) : Int := if (p : Int) ∈ m then (m.idxOf (p : Int) : Int) + 1 else 0
theorem posF_step {m : List Int} {p : Nat} (h : (p : Int) ∉ m) (n : Nat) : rowF n (fun j => if j = p then (m.length : Int) + 1 else posF m j) = rowF n (posF (m ++ [(p : Int)])) := rowF_congr fun j hj => by
  unfold posF
  by_cases hjp : j = p
  · subst hjp
    rw [if_pos rfl, if_pos (by simp), List.idxOf_append, if_neg h]
    simp
  · rw [if_neg hjp]
    have hne : ¬ (j : Int) = (p : Int) := by omega
    by_cases hm : (j : Int) ∈ m
    · rw [if_pos hm, if_pos (List.mem_append_left _ hm), List.idxOf_append, if_pos hm]
    · rw [if_neg hm, if_neg (by simp [hm, hne])]
theorem posF_bd (m : List Int) (p : Nat) : 0 ≤ posF m p ∧ posF m p ≤ m.length := by
  unfold posF
  split
  · rename_i h
    have := List.idxOf_lt_length_of_mem h
    omega
  · omega
def rowO (next : List (List Int)) (l : List Int) (p : Int) : List Int := (succL next p).map fun t => (l.idxOf t : Int)
/-- What Only returns. -/
def onlyL (next : List (List Int)) (l : List Int) : List (List Int) := l.map (rowO next l)
def closedP (next : List (List Int)) (l : List Int) : Prop := ∀ p ∈ l, ∀ t ∈ succL next p, t ∈ l
instance (next : List (List Int)) (l : List Int) : Decidable (closedP next l) := by unfold closedP; exact inferInstance
def onlyE (next : List (List Int)) (l : List Int) : Int := if l.Nodup then (if closedP next l then 0 else 71) else 2
def onlyAt (next : List (List Int)) (l : List Int) (i q : Nat) : List (List Int) := (List.range l.length).map fun j => if j < i then rowO next l (l.getD j 0) else if j = i then (rowO next l (l.getD j 0)).take q else []
theorem onlyAt_length (next : List (List Int)) (l : List Int) (i q : Nat) : (onlyAt next l i q).length = l.length := by simp [onlyAt]
theorem onlyAt_at {next : List (List Int)} {l : List Int} {i q j : Nat} (h : j < l.length) : (onlyAt next l i q).getD j [] = if j < i then rowO next l (l.getD j 0) else if j = i then (rowO next l (l.getD j 0)).take q else [] := by
  rw [List.getD_eq_getElem?_getD]
  simp [onlyAt, h]
theorem onlyAt_start (next : List (List Int)) (l : List Int) : onlyAt next l 0 0 = List.replicate l.length [] := by
  refine ext_getDL [] (by rw [onlyAt_length, List.length_replicate]) fun j hj => ?_
  rw [onlyAt_length] at hj
  rw [onlyAt_at hj, if_neg (by omega), List.take_zero]
  simp [List.getD_eq_getElem?_getD, hj]
theorem onlyAt_next (next : List (List Int)) (l : List Int) (i : Nat) {q : Nat} (hq : (succL next (l.getD i 0)).length ≤ q) : onlyAt next l i q = onlyAt next l (i + 1) 0 := by
  refine ext_getDL [] (by rw [onlyAt_length, onlyAt_length]) fun j hj => ?_
  rw [onlyAt_length] at hj
  rw [onlyAt_at hj, onlyAt_at hj]
  by_cases h1 : j < i
  · rw [if_pos h1, if_pos (by omega)]
  · rw [if_neg h1]
    by_cases h2 : j = i
    · subst h2
      rw [if_pos rfl, if_pos (by omega), List.take_of_length_le (by simpa [rowO] using hq)]
    · rw [if_neg h2, if_neg (by omega)]
      by_cases h3 : j = i + 1
      · rw [if_pos h3, List.take_zero]
      · rw [if_neg h3]
theorem onlyAt_end (next : List (List Int)) (l : List Int) (q : Nat) : onlyAt next l l.length q = onlyL next l := by
  refine ext_getDL [] (by rw [onlyAt_length, onlyL, List.length_map]) fun j hj => ?_
  rw [onlyAt_length] at hj
  rw [onlyAt_at hj, if_pos hj, onlyL]
  conv => rhs; rw [List.getD_eq_getElem?_getD, List.getElem?_map, List.getElem?_eq_getElem hj]
  rw [getD_num hj]
  rfl
theorem onlyAt_more {next : List (List Int)} {l : List Int} {i q : Nat} {t : Int} (hi : i < l.length) (ht : (succL next (l.getD i 0))[q]? = some t) : onlyAt next l i (q + 1) = (onlyAt next l i q).set i ((onlyAt next l i q).getD i [] ++ [(l.idxOf t : Int)]) := by
  refine ext_getDL [] (by rw [List.length_set, onlyAt_length, onlyAt_length]) fun j hj => ?_
  rw [onlyAt_length] at hj
  rw [getD_set (by rw [onlyAt_length]; exact hi), onlyAt_at hj, onlyAt_at hi, onlyAt_at hj]
  by_cases h2 : i = j
  · subst h2
    rw [if_neg (by omega), if_pos rfl, if_pos rfl, if_neg (by omega), if_pos rfl, List.take_add_one]
    congr 1
    rw [rowO, List.getElem?_map, ht]
    rfl
  · rw [if_neg h2]
    by_cases h1 : j < i
    · rw [if_pos h1, if_pos h1]
    · rw [if_neg h1, if_neg (by omega), if_neg h1, if_neg (by omega)]
theorem nodup_snoc {l : List Int} {k : Nat} (hk : k < l.length) (h : (l.take k).Nodup) (hm : l.getD k 0 ∉ l.take k) : (l.take (k + 1)).Nodup := by
  rw [List.take_succ_eq_append_getElem hk, List.nodup_append]
  refine ⟨h, by simp, fun a ha b hb => ?_⟩
  rw [List.mem_singleton] at hb
  rw [hb, ← getD_num hk]
  rintro rfl
  exact hm ha
theorem not_nodup {l : List Int} {k : Nat} (hk : k < l.length) (hm : l.getD k 0 ∈ l.take k) : ¬ l.Nodup := fun h => by
  rw [← List.take_append_drop k l, List.nodup_append] at h
  have hd : l.getD k 0 ∈ l.drop k := by
    rw [List.drop_eq_getElem_cons hk, getD_num hk]
    exact List.mem_cons_self ..
  exact h.2.2 _ hm _ hd rfl
def OnlyP (next : List (List Int)) (l : List Int) (w : World) (e : Ending) (w' : World) : Prop := ∃ v, e = .returned (.tuple #[v, .int .i64 (onlyE next l)]) ∧ (onlyE next l = 0 → NewRows w w' v (onlyL next l)) ∧ (onlyE next l ≠ 0 → v = .slice none 0 0 ∧ Keeps Non w w')
set_option maxRecDepth 100000 in
set_option maxHeartbeats 4000000 in
theorem only_l (a : Option Addr) (n cap : Nat) (next : List (List Int)) (b : Option Addr) (m cap2 : Nat) (l : List Int) (w : World) (h : Rows w a n next) (h2 : Ints w b m l) (hc : checkB next = true) (hl : ∀ x ∈ l, 0 ≤ x ∧ x < (n : Int)) (hm : m ≤ 100000) :
    Calls Try.prog 37 #[.slice a n cap, .slice b m cap2] w (OnlyP next l w) := by
  obtain ⟨i0, hi, hz0, hz1, hz2⟩ := info3_parts
  have hlen := h.len
  subst hlen
  have hn := (checkB_iff.1 hc).1
  have hml := h2.len
  subst hml
  have HW := hide (wrong_l a b next.length cap l.length cap2 next l w h h2)
  rw [wrongE_ok hc hl] at HW
  have HXn := hide h
  have HL := hide h2
  have HC := hide hc
  have HLb := hide hl
  obtain ⟨n, hn2⟩ : ∃ n, next.length = n := ⟨_, rfl⟩
  have HN := hide hn2
  obtain ⟨m, hm2⟩ : ∃ m, l.length = m := ⟨_, rfl⟩
  have HM := hide hm2
  rw [hn2] at HW HXn hn HLb ⊢
  rw [hm2] at HW HL hm ⊢
  clear h h2 hc hl hn2 hm2
  go_enter Try.func37, Try.ntmps37
  go_wp2_with fail
  refine HW.out.mono ?_
  rintro e w1 ⟨rfl, hk⟩
  have HK1 := hide hk
  have hms := make25 w1 n (by omega)
  obtain ⟨M, hM⟩ : ∃ M, w1.heap.size = M := ⟨_, rfl⟩
  have HMs := hide hM
  have HM0 : Hid (Blk (w1.alloc (.cells (Array.replicate n (.int .i64 0)) 3)) M (rowF n (posF (l.take 0))) 3) := by
    have e : rowF n (posF (l.take 0)) = List.replicate n (.int .i64 0) := by rw [← rowF_zero]; exact rowF_congr fun j hj => by simp [posF]
    rw [e, ← List.toArray_replicate]
    exact Blk.newAt w1 (List.replicate n (.int .i64 0)) 3 hM.symm
  have HK0 := hide (HK1.out.alloc (.cells (Array.replicate n (.int .i64 0)) 3))
  have hwM : w.heap.size ≤ M := by rw [← hM]; exact hk.size
  rw [hM] at hms
  clear hk HW
  go_wp2_with fail
  obtain ⟨W1, hW1⟩ : ∃ W1, w1.alloc (.cells (Array.replicate n (.int .i64 0)) 3) = W1 := ⟨_, rfl⟩
  rw [hW1] at HM0 HK0
  try rw [hW1]
  try rw [hM]
  clear hms hW1 hM
  go_loopw [26] (fun i wr => ∃ (k : Nat), k ≤ m ∧ i = .int .i64 k ∧ Hid ((l.take k).Nodup) ∧ Hid (Blk wr M (rowF n (posF (l.take k))) 3) ∧ Hid (Keeps Non w wr)) (fun i _ => m - (intOf i).toNat)
  case atStart => exact ⟨0, by omega, rfl, by simp [Hid], HM0.out, HK0.out⟩
  case round =>
    clear HM0 HK0
    obtain ⟨k, hk, rfl, HD, HMm, HK⟩ := hrel
    by_cases hlt : k < m
    · obtain ⟨b1, o1, rfl, hb1, hc1⟩ := (HL.out.non HK.out).at (by omega)
      have ck := hc1 k hlt
      obtain ⟨x, hx⟩ : ∃ x, l.getD k 0 = x := ⟨_, rfl⟩
      rw [hx] at ck
      have hxb := HLb.out x (by rw [← hx, getD_num (by rw [HM.out]; omega)]; exact List.getElem_mem _)
      obtain ⟨xi, rfl⟩ := Int.eq_ofNat_of_zero_le hxb.1
      have hxn : xi < n := by omega
      have cm : wr.cell? ⟨M, xi, none⟩ = some (.int .i64 (posF (l.take k) xi)) := by rw [HMm.out.cell]; exact rowF_at _ hxn
      have fm := HMm.out.free xi none
      have lm := HMm.out.lt
      have hpb := posF_bd (l.take k) xi
      have z0 : (0 : Int) ≤ (k : Int) := by omega
      have z1 : (k : Int) < (m : Int) := by omega
      have x0 : (0 : Int) ≤ (xi : Int) := by omega
      have x1 : (xi : Int) < (n : Int) := by omega
      by_cases hin : (xi : Int) ∈ l.take k
      · have HE : Hid (onlyE next l = 2) := by
          show _ = _
          unfold onlyE
          rw [if_neg (not_nodup (by rw [HM.out]; exact hlt) (by rw [hx]; exact hin))]
        have hpos : 0 < posF (l.take k) xi := by unfold posF; rw [if_pos hin]; omega
        obtain ⟨y, hy⟩ : ∃ y, posF (l.take k) xi = y := ⟨_, rfl⟩
        rw [hy] at cm hpos
        clear hc1 hx hxb hpb hin hy
        go_wp2_with fail
        try rw [Exit.noGoto_ret]
        go_ret2
        refine ⟨.slice none 0 0, ?_, fun h0 => (by rw [HE.out] at h0; cases h0), fun _ => ⟨rfl, HK.out⟩⟩
        rw [HE.out]
        rfl
      · have hpos : posF (l.take k) xi = 0 := by unfold posF; rw [if_neg hin]
        rw [hpos] at cm
        have HD2 : Hid ((l.take (k + 1)).Nodup) := nodup_snoc (by rw [HM.out]; exact hlt) HD.out (by rw [hx]; exact hin)
        have HTk : Hid (l.take (k + 1) = l.take k ++ [(xi : Int)]) := take_snocI (by rw [HM.out]; omega) hx
        have HM2 : Hid (Blk (wr.setCell ⟨M, xi, none⟩ (.int .i64 ((k : Int) + 1))) M (rowF n (posF (l.take (k + 1)))) 3) := by
          have h1 := HMm.out.store xi (.int .i64 ((k : Int) + 1))
          have h3 := posF_step hin n
          rw [List.length_take, Nat.min_eq_left (by rw [HM.out]; omega)] at h3
          rw [rowF_set, h3, ← HTk.out] at h1
          exact h1
        clear hc1 hx hxb hpb hin hpos
        go_wp2_with fail
        go_roundw
        case rel => exact ⟨k + 1, by omega, by go_num, HD2.out, HM2.out, HK.out.set (.inr hwM) _⟩
        case measure => simp [intOf]; omega
    · have hkm : k = m := by omega
      subst hkm
      have y9 : ¬ (k : Int) < (k : Int) := by omega
      have HDn : Hid (l.Nodup) := by have h := HD.out; rw [List.take_of_length_le (by rw [HM.out]; exact Nat.le_refl _)] at h; exact h
      have HMl : Hid (Blk wr M (rowF n (posF l)) 3) := by have h := HMm.out; rw [List.take_of_length_le (by rw [HM.out]; exact Nat.le_refl _)] at h; exact h
      have hms := make23 wr k (by omega)
      obtain ⟨B, hB⟩ : ∃ B, wr.heap.size = B := ⟨_, rfl⟩
      have HBs := hide hB
      have HA0 := hide (rowsAt_made wr (n := k) hB)
      have HK0 := hide (HK.out.alloc (.cells (List.replicate k (Value.slice none 0 0)).toArray 25))
      have HM3 := hide (HMl.out.alloc (.cells (List.replicate k (Value.slice none 0 0)).toArray 25))
      have hMB : M < B := by have := HMl.out.lt; omega
      clear HD HMm HMl
      go_wp2_with fail
      obtain ⟨W2, hW2⟩ : ∃ W, wr.alloc (.cells (List.replicate k (Value.slice none 0 0)).toArray 25) = W := ⟨_, rfl⟩
      have hW3 := hW2
      simp only [List.toArray_replicate] at hW3
      first | rw [hW2] | rw [hW3]
      rw [hW2] at HA0 HK0 hms HM3
      try rw [hB]
      clear hW2 hW3 hB hms
      go_loopw [47] (fun i wr => ∃ (i9 : Nat) (S : List Value), i9 ≤ k ∧ i = .int .i64 i9 ∧ Hid (∀ j, j < i9 → ∀ t ∈ succL next (l.getD j 0), t ∈ l) ∧ Hid (RowsAt wr B S (onlyAt next l i9 0)) ∧ Hid (Blk wr M (rowF n (posF l)) 3) ∧ Hid (Keeps Non w wr)) (fun i _ => k - (intOf i).toNat)
      case atStart => exact ⟨0, _, by omega, rfl, fun j hj => by omega, by rw [onlyAt_start, HM.out]; exact HA0.out, HM3.out, HK0.out⟩
      case round =>
        clear HA0 HK0 HM3
        obtain ⟨i, S, hi9, rfl, HCl, HA, HMm, HKr⟩ := hrel
        by_cases hik : i < k
        · obtain ⟨b1, o1, rfl, hb1, hc1⟩ := (HL.out.non HKr.out).at (by omega)
          have ck := hc1 i hik
          obtain ⟨x, hx⟩ : ∃ x, l.getD i 0 = x := ⟨_, rfl⟩
          rw [hx] at ck
          have hxm : x ∈ l := by rw [← hx, getD_num (by rw [HM.out]; omega)]; exact List.getElem_mem _
          have hxb := HLb.out x hxm
          obtain ⟨pi, rfl⟩ := Int.eq_ofNat_of_zero_le hxb.1
          have hpn : pi < n := by omega
          obtain ⟨b2, o2, rfl, hb2, hc2⟩ := HXn.out.at (by omega)
          obtain ⟨ai, ci, hci0, hIi⟩ := hc2 pi hpn
          have hci := (HKr.out.cell (p := ⟨b2, o2 + pi, none⟩) hb2 (fun x => x)).trans hci0
          obtain ⟨ll, hll⟩ : ∃ ll, next.getD pi [] = ll := ⟨_, rfl⟩
          have hsl : succL next (pi : Int) = ll := hll
          rw [hll] at hci hIi
          obtain ⟨ln, hln⟩ : ∃ ln, ll.length = ln := ⟨_, rfl⟩
          rw [hln] at hci hIi
          have hlnb : ln ≤ 17592186044416 := hIi.big
          have HIi := hide hIi
          have HX := hide (And.intro hx (And.intro hxm hsl))
          have htb : Hid (∀ t ∈ ll, 0 ≤ t ∧ t < (n : Int)) := fun t ht => by
            have := checkB_succ HC.out pi (by rw [HN.out]; omega) t (by rw [hsl]; exact ht)
            rw [HN.out] at this
            exact this
          have z0 : (0 : Int) ≤ (i : Int) := by omega
          have z1 : (i : Int) < (k : Int) := by omega
          have x0 : (0 : Int) ≤ (pi : Int) := by omega
          have x1 : (pi : Int) < (n : Int) := by omega
          have Hlt9 : Hid (ln ≤ 16384) := by
            have h1 := total_row (next := next) (k := pi) (by rw [HN.out]; exact hpn)
            have h2 := (checkB_iff.1 HC.out).2.1
            rw [hll, hln] at h1
            show _ ≤ _
            omega
          clear hc1 hc2 hci0 hIi hx hxm hxb hll hsl hln
          go_wp2_with fail
          clear hci ck
          go_loopw [57] (fun j wi => ∃ (q : Nat) (S2 : List Value), q ≤ ln ∧ j = .int .i64 q ∧ Hid (∀ t ∈ ll.take q, t ∈ l) ∧ Hid (RowsAt wi B S2 (onlyAt next l i q)) ∧ Hid (Blk wi M (rowF n (posF l)) 3) ∧ Hid (Keeps Non w wi)) (fun j _ => ln - (intOf j).toNat)
          case atStart => exact ⟨0, S, by omega, rfl, fun t ht => by simp at ht, HA.out, HMm.out, HKr.out⟩
          case round =>
            clear HA HMm HKr
            obtain ⟨q, S2, hq, rfl, HIn, HA, HMm, HKr⟩ := hrel
            have hll : ll.length = ln := HIi.out.len
            by_cases hql : q < ln
            · obtain ⟨b3, o3, rfl, hb3, hc3⟩ := (HIi.out.non HKr.out).at (by omega)
              have cq := hc3 q hql
              obtain ⟨t, ht⟩ : ∃ t, ll.getD q 0 = t := ⟨_, rfl⟩
              rw [ht] at cq
              have htl : ll[q]? = some t := by rw [List.getElem?_eq_getElem (by omega), ← ht, getD_num (by omega)]
              have htm := List.mem_of_getElem? htl
              have htb2 := htb.out t htm
              obtain ⟨ti, rfl⟩ := Int.eq_ofNat_of_zero_le htb2.1
              have htn : ti < n := by omega
              have HTk : Hid (ll.take (q + 1) = ll.take q ++ [(ti : Int)]) := take_snocI (by omega) ht
              have hpb := posF_bd l ti
              have hpe : posF l ti = if (ti : Int) ∈ l then (l.idxOf (ti : Int) : Int) + 1 else 0 := rfl
              have hmo := onlyAt_more (next := next) (l := l) (i := i) (q := q) (t := (ti : Int)) (by rw [HM.out]; exact hik) (by rw [HX.out.1, HX.out.2.2]; exact htl)
              obtain ⟨y, hy⟩ : ∃ y, posF l ti = y := ⟨_, rfl⟩
              have cm : wr.cell? ⟨M, ti, none⟩ = some (.int .i64 y) := by rw [HMm.out.cell, ← hy]; exact rowF_at _ htn
              have lm := HMm.out.lt
              rw [hy] at hpb hpe
              rw [HM.out] at hpb
              have r0 : (0 : Int) ≤ (q : Int) := by omega
              have r1 : (q : Int) < (ln : Int) := by omega
              have t0 : (0 : Int) ≤ (ti : Int) := by omega
              have t1 : (ti : Int) < (n : Int) := by omega
              by_cases hin : (ti : Int) ∈ l
              · rw [if_pos hin] at hpe
                have hy1 : (l.idxOf (ti : Int) : Int) = y - 1 := by omega
                rw [hy1] at hmo
                have hyz : ¬ y = 0 := by omega
                have hyz2 : (y == 0) = false := by simpa using hyz
                have hw9 : IntKind.i64.wrap (y - 1) = y - 1 := IntWalk.i64_in _ (by omega)
                have hol := onlyAt_length next l i q
                rw [HM.out] at hol
                obtain ⟨v, hv, ho⟩ := HA.out.row i (by omega)
                obtain ⟨ys, hys⟩ : ∃ ys, (onlyAt next l i q).getD i [] = ys := ⟨_, rfl⟩
                have hyl : ys.length ≤ 16384 := by
                  rw [← hys, onlyAt_at (by rw [HM.out]; exact hik), if_neg (by omega), if_pos rfl, List.length_take]
                  have h1 : (rowO next l (l.getD i 0)).length = ln := by rw [rowO, List.length_map, HX.out.1, HX.out.2.2]; exact hll
                  have := Hlt9.out
                  omega
                rw [hys] at ho hmo
                obtain ⟨yl, hylq⟩ : ∃ yl, ys.length = yl := ⟨_, rfl⟩
                rw [hylq] at ho hyl
                have HYl := hide hylq
                have HO := hide ho
                have HV := hide hv
                have HMo := hide hmo
                have HInn := hide hin
                have cb : wr.cell? ⟨B, i, none⟩ = some v := by rw [HA.out.blk.cell]; exact hv
                have fb := HA.out.blk.free i none
                have lb := HA.out.blk.lt
                have HBs2 : Hid (M < B ∧ w.heap.size ≤ B) := ⟨hMB, by omega⟩
                obtain ⟨va, vc, rfl⟩ := owns_slice ho
                have hgB : some B ≠ (Value.slice va yl vc).ownBlock := fun e => by
                  have := own_ge HO.out B e.symm
                  omega
                have HCb : Hid (∀ w5, (wr.drew.alloc (.cells #[.int .i64 (y - 1)] 3)).grownBy w5 (Value.slice va yl vc).ownBlock → w5.cell? ⟨B, i, none⟩ = some (.slice va yl vc) ∧ w5.frozen? ⟨B, i, none⟩ = false ∧ B < w5.heap.size ∧ Blk w5 M (rowF n (posF l)) 3) := fun w5 hgrow => by
                  refine ⟨?_, ?_, ?_, ?_⟩
                  · exact (World.cell?_of_block (w := wr.drew.alloc (.cells #[.int .i64 (y - 1)] 3)) (hgrow.block B (by simp; omega) hgB)).trans (((((Keeps.refl Non wr).drew).alloc (.cells #[.int .i64 (y - 1)] 3)).cell (p := ⟨B, i, none⟩) lb (fun x => x)).trans cb)
                  · exact (World.frozen?_of_block (w := wr.drew.alloc (.cells #[.int .i64 (y - 1)] 3)) (hgrow.block B (by simp; omega) hgB)).trans (((((Keeps.refl Non wr).drew).alloc (.cells #[.int .i64 (y - 1)] 3)).frozen (p := ⟨B, i, none⟩) lb (fun x => x)).trans fb)
                  · have := hgrow.size
                    simp at this
                    omega
                  · refine (HMm.out.keeps (((Keeps.refl Non wr).drew).alloc (.cells #[.int .i64 (y - 1)] 3)) (fun x => x)).of_eq (hgrow.block M (by simp; omega) (fun e => ?_))
                    have := own_ge HO.out M e.symm
                    omega
                clear hc3 ht htl htm htb2 hpe hmo hv ho hys hylq hol hin hy1 hy hgB hpb
                go_wp2_with fail
                go_region_law (refine step_append_at rfl _ _ 25 rfl (B + 1) 3 i0 (.int .i64 0) 1 8 Try.underlying25 hi hz0 hz1 hz2 rfl (by decide) (.slice va yl vc) yl (ys.map (Value.int .i64)) (by rfl) (owns_keeps HO.out (((Keeps.refl Non wr).drew).alloc (.cells #[.int .i64 (y - 1)] 3)) (fun _ _ x => x)) ⟨wr.heap.size, 0, none⟩ 1 1 [.int .i64 (y - 1)] (by rfl) rfl (cell_one_new wr.drew _ _) (by intro u hu; simp at hu; subst hu; rfl) (by unfold maxLen; omega) (by omega) (by simp; omega) ?_; intro v' w5 hown hgrow hat; obtain ⟨a5, c5, rfl⟩ := owns_slice hown; obtain ⟨cb5, fb5, lb5, HM5⟩ := HCb.out w5 hgrow)
                all_goals
                  have HAn : Hid (RowsAt (w5.setCell ⟨B, i, none⟩ (.slice a5 (yl + 1) c5)) B (S2.set i (.slice a5 (yl + 1) c5)) (onlyAt next l i (q + 1))) := by
                    show RowsAt _ _ _ _
                    rw [HMo.out]
                    refine HA.out.put (by rw [onlyAt_length, HM.out]; exact hik) HV.out (((Keeps.refl Non wr).drew).alloc _) ?_ hgrow (hat.imp id fun e g hg => ?_)
                    · rw [List.length_append, List.map_append, HYl.out]
                      exact hown
                    · rw [e] at hg
                      cases hg
                      simp
                  have HKn : Hid (Keeps Non w (w5.setCell ⟨B, i, none⟩ (.slice a5 (yl + 1) c5))) := (keeps_grown ((HKr.out.drew).alloc _) hgrow (fun g hg => .inr (by have := own_ge HO.out g hg; have := HBs2.out.2; omega))).set (.inr HBs2.out.2) _
                  have HMn : Hid (Blk (w5.setCell ⟨B, i, none⟩ (.slice a5 (yl + 1) c5)) M (rowF n (posF l)) 3) := HM5.other (by have := HBs2.out.1; show M ≠ B; omega) _
                  have HIn2 : Hid (∀ t ∈ ll.take (q + 1), t ∈ l) := fun t ht => by
                    rw [HTk.out] at ht
                    rcases List.mem_append.1 ht with h | h
                    · exact HIn.out t h
                    · rw [List.mem_singleton.1 h]; exact HInn.out
                  clear hown hgrow hat cb5 fb5 lb5 HM5
                  go_wp2_with fail
                  go_roundw
                  case rel => exact ⟨q + 1, _, by omega, by go_num, HIn2.out, HAn.out, HMn.out, HKn.out⟩
                  case measure => simp [intOf]; omega
              · rw [if_neg hin] at hpe
                subst hpe
                have HE : Hid (onlyE next l = 71) := by
                  show _ = _
                  unfold onlyE
                  rw [if_pos HDn.out, if_neg]
                  intro hcp
                  exact hin (hcp pi HX.out.2.1 ti (by rw [HX.out.2.2]; exact htm))
                clear hc3 ht htl htm htb2 hmo hin hy hpb
                go_wp2_with fail
                try rw [Exit.noGoto_ret]
                go_ret2
                refine ⟨.slice none 0 0, ?_, fun h0 => (by rw [HE.out] at h0; cases h0), fun _ => ⟨rfl, HKr.out⟩⟩
                rw [HE.out]
                rfl
            · have hqq : q = ln := by omega
              subst hqq
              have y9 : ¬ (q : Int) < (q : Int) := by omega
              have HE : Hid (RowsAt wr B S2 (onlyAt next l (i + 1) 0)) := by
                show RowsAt _ _ _ _
                rw [← onlyAt_next next l i (q := q) (by rw [HX.out.1, HX.out.2.2]; omega)]
                exact HA.out
              have HCl2 : Hid (∀ j, j < i + 1 → ∀ t ∈ succL next (l.getD j 0), t ∈ l) := fun j hj t ht => by
                rcases Nat.lt_succ_iff_lt_or_eq.1 hj with h | h
                · exact HCl.out j h t ht
                · subst h
                  rw [HX.out.1, HX.out.2.2] at ht
                  exact HIn.out t (by rw [List.take_of_length_le (by omega)]; exact ht)
              clear hll
              go_wp2_with fail
              go_roundw
              case rel => exact ⟨i + 1, S2, by omega, by go_num, HCl2.out, HE.out, HMm.out, HKr.out⟩
              case measure => simp [intOf]; omega
        · have hik2 : i = k := by omega
          subst hik2
          have y9 : ¬ (i : Int) < (i : Int) := by omega
          have HE : Hid (onlyE next l = 0) := by
            show _ = _
            unfold onlyE
            rw [if_pos HDn.out, if_pos]
            intro p hp t ht
            obtain ⟨j, hj, hjp⟩ := List.getElem_of_mem hp
            exact HCl.out j (by rw [← HM.out]; exact hj) t (by rw [getD_num hj, hjp]; exact ht)
          have HR : Hid (NewRows w wr (.slice (some ⟨B, 0, none⟩) i i) (onlyL next l)) := by
            have h := HA.out
            have e := onlyAt_end next l 0
            rw [HM.out] at e
            rw [e] at h
            exact ⟨B, S, by rw [onlyL, List.length_map, HM.out], by omega, h, HKr.out⟩
          go_wp2_with fail
          go_ret2
          refine ⟨.slice (some ⟨B, 0, none⟩) i i, ?_, fun _ => HR.out, fun h => absurd HE.out h⟩
          rw [HE.out]
          rfl
theorem only_no (a : Option Addr) (n cap : Nat) (next : List (List Int)) (b : Option Addr) (m cap2 : Nat) (l : List Int) (x : Int) (w : World) (h : Rows w a n next) (h2 : Ints w b m l) (hx : wrongE next l = x) (h0 : x ≠ 0) :
    Calls Try.prog 37 #[.slice a n cap, .slice b m cap2] w fun e w' => e = .returned (.tuple #[.slice none 0 0, .int .i64 x]) ∧ Keeps Non w w' := by
  have HW := hide (wrong_l a b n cap m cap2 next l w h h2)
  rw [hx] at HW
  have g1 : (x != 0) = true := by simpa using h0
  clear h h2 hx
  go_enter Try.func37, Try.ntmps37
  go_wp2_with fail
  refine HW.out.mono ?_
  rintro e w1 ⟨rfl, hk⟩
  go_wp2_with fail
  go_ret2
  exact ⟨rfl, hk⟩
end Go.Proofs.Ythpdflpkkiabhaa
