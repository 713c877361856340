/-
  The reference: Closed, Closure. No condition.
-/
import Derived.Test.YthpdflpkkiabhaaXd
import Derived.Test.YthpdflpkkiabhaaPk
import Derived.Test.YthpdflpkkiabhaaXb
import Derived.Test.YthpdflpkkiabhaaOn
namespace Go.Proofs.Ythpdflpkkiabhaa
open Go.RowKit
attribute [local go_sem] onto_cell onto_frozen
set_option linter.unusedVariables false
theorem closed_iff {next : List (List Int)} {l : List Int} (hc : checkB next = true) (hl : ∀ x ∈ l, 0 ≤ x ∧ x < (next.length : Int)) : closedB next next.length l = decide (closedP next l) := by
  rw [closedB_eq hc hl]
  by_cases h : closedP next l
  · rw [decide_eq_true h, decide_eq_true_iff]
    refine rise_ext (closureL_rise hc hl) (comp_rise l) fun x => ?_
    rw [closureL_mem hc hl, comp_mem]
    constructor
    · rintro ⟨a, ha, hav⟩
      induction hav with
      | refl _ => exact ha
      | step _ h2 _ ih => exact h _ ih _ h2
    · intro hx
      exact ⟨x, hx, .refl (by have := hl x hx; omega)⟩
  · rw [decide_eq_false h, decide_eq_false_iff_not]
    intro e2
    refine h fun p hp t ht => ?_
    rw [← comp_mem l t, ← e2, closureL_mem hc hl]
    have hp0 := hl p hp
    have := checkB_succ hc p hp0 t ht
    exact ⟨p, hp, .step (.refl (by omega)) ht (by omega)⟩
set_option maxRecDepth 100000 in
set_option maxHeartbeats 4000000 in
theorem refclosed_l (a b : Option Addr) (n cap m cap2 : Nat) (next : List (List Int)) (l : List Int) (w : World) (h : Rows w a n next) (h2 : Ints w b m l) (hl : ∀ x ∈ l, 0 ≤ x ∧ x < (n : Int)) (hm : m ≤ 1000) (hsh : ∀ i, (next.getD i []).length ≤ 200) :
    Calls Try.prog 60 #[.slice a n cap, .slice b m cap2] w fun e w' => e = .returned (.bool (decide (closedP next l))) ∧ Keeps Non w w' := by
  have HX := hide h
  have HY := hide h2
  have HL := hide hl
  have HSh := hide hsh
  clear h h2 hl hsh
  go_enter Try.func60, Try.ntmps60
  go_wp2_with fail
  go_loopw [5] (fun t wr => ∃ i : Nat, i ≤ m ∧ t = .int .i64 i ∧ Hid (Keeps Non w wr) ∧ Hid (∀ p ∈ l.take i, ∀ t ∈ succL next p, t ∈ l)) (fun t _ => m - (intOf t).toNat)
  case atStart => exact ⟨0, by omega, rfl, Keeps.refl _ _, fun p hp => by simp at hp⟩
  case round =>
    obtain ⟨i, hi, rfl, HK, HA⟩ := hrel
    have hlen : l.length = m := HY.out.len
    by_cases hlt : i < m
    · have hmem : l.getD i 0 ∈ l := by rw [getD_num (by omega)]; exact List.getElem_mem _
      have hts := take_has (xs := l) (k := i) (by omega)
      obtain ⟨x, hx⟩ : ∃ x, l.getD i 0 = x := ⟨_, rfl⟩
      rw [hx] at hmem hts
      have hxb := HL.out x hmem
      obtain ⟨pi, rfl⟩ := Int.eq_ofNat_of_zero_le hxb.1
      have hpn : pi < n := by omega
      have hsl : succL next (pi : Int) = next.getD pi [] := by unfold succL; rw [Int.toNat_natCast]
      have hrl := HSh.out pi
      obtain ⟨ll, hll⟩ : ∃ y, next.getD pi [] = y := ⟨_, rfl⟩
      obtain ⟨ln, hln⟩ : ∃ y, ll.length = y := ⟨_, rfl⟩
      rw [hll] at hsl hrl
      rw [hln] at hrl
      have HX2 := hide hx
      have HLl := hide hll
      have HLn := hide hln
      have HSl := hide hsl
      have HTs := hide hts
      have HMm := hide hmem
      have i0 : (0 : Int) ≤ (i : Int) := by omega
      have i1 : (i : Int) < (m : Int) := by omega
      have p0 : (0 : Int) ≤ (pi : Int) := by omega
      have p1 : (pi : Int) < (n : Int) := by omega
      clear hmem hts hx hsl hll hln hlen
      go_wp2_with fail
      have HK0 := hide HK.out
      go_loopw [6] (fun t wr => ∃ q : Nat, q ≤ ln ∧ t = .int .i64 q ∧ Hid (Keeps Non w wr) ∧ Hid (∀ t ∈ ll.take q, t ∈ l)) (fun t _ => ln - (intOf t).toNat)
      case atStart => exact ⟨0, by omega, rfl, HK0.out, fun t ht => by simp at ht⟩
      case round =>
        clear HK HK0
        obtain ⟨q, hq, rfl, HK, HB⟩ := hrel
        obtain ⟨b1, o1, hb1, lb1, hc1⟩ := (HY.out.non HK.out).at (by omega)
        subst hb1
        have ci' := hc1 i hlt
        rw [HX2.out] at ci'
        obtain ⟨b2, o2, hb2, lb2, hc2⟩ := (HX.out.non HK.out).at (by omega)
        subst hb2
        obtain ⟨ai, ci, cr, hI⟩ := hc2 pi hpn
        rw [HLl.out, HLn.out] at cr hI
        have hll := HLn.out
        by_cases hql : q < ln
        · obtain ⟨b3, o3, hb3, lb3, hc3⟩ := hI.at (by omega)
          subst hb3
          have cq := hc3 q hql
          have hta := take_mem_all (P := fun t => t ∈ l) (xs := ll) (k := q) (by omega) HB.out
          have hmem : ll.getD q 0 ∈ ll := by rw [getD_num (by omega)]; exact List.getElem_mem _
          obtain ⟨x, hx⟩ : ∃ x, ll.getD q 0 = x := ⟨_, rfl⟩
          rw [hx] at cq hta hmem
          have HH := hide (has_l (some ⟨b1, o1, none⟩) m cap2 l x wr (HY.out.non HK.out))
          have q0 : (0 : Int) ≤ (q : Int) := by omega
          have q1 : (q : Int) < (ln : Int) := by omega
          by_cases hin : x ∈ l
          · rw [decide_eq_true hin] at HH
            have HB2 := hide (hta hin)
            clear hc1 hc2 hI hc3 hta hmem hx hll hin
            go_wp2_with fail
            refine HH.out.mono ?_
            rintro e w4 ⟨rfl, hk4⟩
            have HK4 := hide (HK.out.then hk4)
            clear hk4 HH
            go_wp2_with fail
            go_roundw
            case rel => exact ⟨q + 1, by omega, by go_num, HK4.out, HB2.out⟩
            case measure => simp [intOf]; omega
          · rw [decide_eq_false hin] at HH
            have HE : Hid (decide (closedP next l) = false) := by
              show _ = _
              rw [decide_eq_false_iff_not]
              intro hcp
              exact hin (hcp pi HMm.out x (by rw [HSl.out]; exact hmem))
            clear hc1 hc2 hI hc3 hta hmem hx hll hin
            go_wp2_with fail
            refine HH.out.mono ?_
            rintro e w4 ⟨rfl, hk4⟩
            have HK4 := hide (HK.out.then hk4)
            clear hk4 HH
            go_wp2_with fail
            try rw [Exit.noGoto_ret]
            go_ret
            exact ⟨ret_bool (by rw [HE.out]), HK4.out⟩
        · have hqq : q = ln := by omega
          subst hqq
          have y8 : ¬ (q : Int) < (q : Int) := by omega
          have HA2 : Hid (∀ p ∈ l.take (i + 1), ∀ t ∈ succL next p, t ∈ l) := fun p hp t ht => by
            rcases (HTs.out p).1 hp with h1 | h1
            · exact HA.out p h1 t ht
            · subst h1
              rw [HSl.out] at ht
              exact HB.out t (by rw [List.take_of_length_le (by omega)]; exact ht)
          clear hc1 hc2 hI hll
          go_wp2_with fail
          go_roundw
          case rel => exact ⟨i + 1, by omega, by go_num, HK.out, HA2.out⟩
          case measure => simp [intOf]; omega
    · have hii : i = m := by omega
      subst hii
      have y8 : ¬ (i : Int) < (i : Int) := by omega
      have HE : Hid (decide (closedP next l) = true) := by
        show _ = _
        rw [decide_eq_true_iff]
        intro p hp
        exact HA.out p (by rw [List.take_of_length_le (by omega)]; exact hp)
      clear hlen
      go_wp2_with fail
      try rw [Exit.noGoto_ret]
      go_ret
      exact ⟨ret_bool (by rw [HE.out]), HK.out⟩
/-- Whether a point is reached from one of the first ones. -/
def cloB (next : List (List Int)) (n : Nat) (l : List Int) (i p : Nat) : Bool := (l.take i).any fun x => decide (0 ≤ (waysL next n x).getD p 0)
def cloI (next : List (List Int)) (n : Nat) (l : List Int) (i p : Nat) : Int := if cloB next n l i p = true then 1 else 0
theorem cloB_zero (next : List (List Int)) (n : Nat) (l : List Int) (p : Nat) : cloB next n l 0 p = false := by simp [cloB]
theorem cloB_succ {next : List (List Int)} {n : Nat} {l : List Int} {i p : Nat} (h : i < l.length) {x : Int} (hx : l.getD i 0 = x) : cloB next n l (i + 1) p = (cloB next n l i p || decide (0 ≤ (waysL next n x).getD p 0)) := by
  unfold cloB
  rw [List.take_succ_eq_append_getElem h, List.any_append, ← getD_num h, hx]
  simp
def cloR (next : List (List Int)) (n : Nat) (l : List Int) (m : Nat) : List Int := ((List.range m).filter fun p => cloB next n l l.length p).map fun (p : Nat) => (p : Int)
theorem cloR_yes {next : List (List Int)} {n : Nat} {l : List Int} {m : Nat} (h : cloB next n l l.length m = true) : cloR next n l (m + 1) = cloR next n l m ++ [(m : Int)] := by
  unfold cloR
  rw [List.range_succ, List.filter_append, List.map_append, List.filter_cons_of_pos (by simpa using h)]
  rfl
theorem cloR_no {next : List (List Int)} {n : Nat} {l : List Int} {m : Nat} (h : ¬ cloB next n l l.length m = true) : cloR next n l (m + 1) = cloR next n l m := by
  unfold cloR
  rw [List.range_succ, List.filter_append, List.map_append, List.filter_cons_of_neg (by simpa using h)]
  simp
theorem cloR_length (next : List (List Int)) (n : Nat) (l : List Int) (m : Nat) : (cloR next n l m).length ≤ m := by
  unfold cloR
  rw [List.length_map]
  exact Nat.le_trans (List.length_filter_le _ _) (by simp)
theorem closure_cloR {next : List (List Int)} {l : List Int} (hc : checkB next = true) (hl : ∀ x ∈ l, 0 ≤ x ∧ x < (next.length : Int)) : closureL next next.length l = cloR next next.length l next.length := by
  refine rise_ext (closureL_rise hc hl) (range_rise _ _) fun x => ?_
  have hp := closureL_pts hc hl x
  have key : ∀ (p : Nat), p < next.length → ∀ y ∈ l, (0 ≤ (waysL next next.length y).getD p 0 ↔ Av (succL next) (-1) y p) := fun p hpn y hy => by
    rw [((finds hc (hl y hy)).far p hpn).1]
    unfold fromL
    rw [found_mem (checkB_succ hc) (fun z hz => by rw [List.mem_singleton.1 hz]; exact hl y hy)]
    simp only [List.mem_singleton, exists_eq_left]
  constructor
  · intro h
    have hxb := hp h
    obtain ⟨y, hy, hav⟩ := (closureL_mem hc hl x).1 h
    refine List.mem_map.2 ⟨x.toNat, ?_, by omega⟩
    rw [List.mem_filter, List.mem_range]
    refine ⟨by omega, ?_⟩
    unfold cloB
    rw [List.take_length]
    refine List.any_eq_true.2 ⟨y, hy, ?_⟩
    rw [decide_eq_true_iff, key x.toNat (by omega) y hy, show ((x.toNat : Nat) : Int) = x by omega]
    exact hav
  · intro h
    obtain ⟨p, hp2, rfl⟩ := List.mem_map.1 h
    rw [List.mem_filter, List.mem_range] at hp2
    obtain ⟨h1, h2⟩ := hp2
    unfold cloB at h2
    rw [List.take_length] at h2
    obtain ⟨y, hy, h3⟩ := List.any_eq_true.1 h2
    rw [decide_eq_true_iff, key p h1 y hy] at h3
    exact (closureL_mem hc hl p).2 ⟨y, hy, h3⟩
end Go.Proofs.Ythpdflpkkiabhaa
