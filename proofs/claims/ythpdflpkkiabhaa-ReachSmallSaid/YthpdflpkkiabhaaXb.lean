/-
  The reference: Check, Back. No condition.
-/
import Derived.Test.YthpdflpkkiabhaaXa
import Derived.Test.YthpdflpkkiabhaaPb
namespace Go.Proofs.Ythpdflpkkiabhaa
open Go.RowKit
attribute [local go_sem] onto_cell onto_frozen
set_option linter.unusedVariables false
theorem take_mem_all {P : Int → Prop} {xs : List Int} {k : Nat} (hk : k < xs.length) (h : ∀ x ∈ xs.take k, P x) (hx : P (xs.getD k 0)) : ∀ x ∈ xs.take (k + 1), P x := fun x hm => by
  rcases (take_has hk x).1 hm with h1 | h1
  · exact h x h1
  · rw [← h1]; exact hx
theorem row_mem {next : List (List Int)} {k : Nat} (hk : k < next.length) (h : ∀ l ∈ next.take k, ∀ x ∈ l, 0 ≤ x ∧ x < (next.length : Int)) (hx : ∀ x ∈ next.getD k [], 0 ≤ x ∧ x < (next.length : Int)) : ∀ l ∈ next.take (k + 1), ∀ x ∈ l, 0 ≤ x ∧ x < (next.length : Int) := fun l hm => by
  rw [List.take_succ_eq_append_getElem hk, List.mem_append, List.mem_singleton] at hm
  rcases hm with h1 | h1
  · exact h l h1
  · rw [h1, ← getD_numL hk]; exact hx
set_option maxRecDepth 100000 in
set_option maxHeartbeats 4000000 in
theorem refcheck_l (a : Option Addr) (n cap : Nat) (next : List (List Int)) (w : World) (h : Rows w a n next) (hn : n ≤ 25) (ht : total next ≤ 200) :
    Calls Try.prog 52 #[.slice a n cap] w fun e w' => e = .returned (.bool (checkB next)) ∧ Keeps Non w w' := by
  have HX := hide h
  have HLn := hide h.len
  have HT := hide (total_take_le next)
  have HTt := hide ht
  clear h ht
  have y1 : ¬ 1024 < n := by omega
  have y2 : ¬ (1024 : Int) < (n : Int) := by omega
  have y3 : ¬ (n : Int) > 1024 := by omega
  go_enter Try.func52, Try.ntmps52
  go_wp2_with fail
  go_loopw [3, 4] (fun s i wr => ∃ k : Nat, k ≤ n ∧ i = .int .i64 k ∧ s = .int .i64 ((total (next.take k) : Nat) : Int) ∧ Hid (Keeps Non w wr)) (fun _ i _ => n - (intOf i).toNat)
  case atStart => exact ⟨0, by omega, rfl, rfl, Keeps.refl _ _⟩
  case round =>
    obtain ⟨k, hk, rfl, rfl, HK⟩ := hrel
    have htk := HT.out k
    have htt := HTt.out
    by_cases hlt : k < n
    · obtain ⟨b, off, rfl, lb, hc⟩ := (HX.out.non HK.out).at (by omega)
      obtain ⟨ai, ci, cr, hI⟩ := hc k hlt
      have hts := total_take_succ (next := next) (k := k) (by have := HLn.out; omega)
      have htk1 := HT.out (k + 1)
      obtain ⟨ln, hln⟩ : ∃ l, (next.getD k []).length = l := ⟨_, rfl⟩
      obtain ⟨tk, htk2⟩ : ∃ l, total (next.take k) = l := ⟨_, rfl⟩
      rw [hln] at cr hts
      rw [hts] at htk1
      rw [htk2] at hts htk htk1 ⊢
      have HTs := hide hts
      have z0 : (0 : Int) ≤ (k : Int) := by omega
      have z1 : (k : Int) < (n : Int) := by omega
      have z2 : IntKind.i64.wrap ((tk : Int) + (ln : Int)) = (tk : Int) + (ln : Int) := IntWalk.i64_in _ (by omega)
      clear hln htk2 hts hc hI
      go_wp2_with fail
      go_roundw
      case rel => exact ⟨k + 1, by omega, by go_num, by rw [HTs.out]; go_num, HK.out⟩
      case measure => simp [intOf]; omega
    · have hkn : k = n := by omega
      subst hkn
      have y9 : ¬ (k : Int) < (k : Int) := by omega
      obtain ⟨tk, htk2⟩ : ∃ l, total (next.take k) = l := ⟨_, rfl⟩
      rw [htk2] at htk ⊢
      have x1 : ¬ (16384 : Int) < (tk : Int) := by omega
      have x2 : ¬ 16384 < tk := by omega
      clear htk2
      go_wp2_with fail
      have HK0 := hide HK.out
      go_loopw [5] (fun i wr => ∃ p : Nat, p ≤ k ∧ i = .int .i64 p ∧ Hid (Keeps Non w wr) ∧ Hid (∀ l ∈ next.take p, ∀ x ∈ l, 0 ≤ x ∧ x < (next.length : Int))) (fun i _ => k - (intOf i).toNat)
      case atStart => exact ⟨0, by omega, rfl, HK0.out, fun l hl => by simp at hl⟩
      case round =>
        clear HK HK0
        obtain ⟨p, hp, rfl, HK, HA⟩ := hrel
        by_cases hlt : p < k
        · have hsh : (next.getD p []).length ≤ 200 := by
            have h1 := total_take_succ (next := next) (k := p) (by have := HLn.out; omega)
            have h2 := HT.out (p + 1)
            omega
          obtain ⟨ll, hll⟩ : ∃ l, next.getD p [] = l := ⟨_, rfl⟩
          obtain ⟨ln, hln⟩ : ∃ l, ll.length = l := ⟨_, rfl⟩
          rw [hll, hln] at hsh
          have HLl := hide hll
          have HLm := hide hln
          have p0 : (0 : Int) ≤ (p : Int) := by omega
          have p1 : (p : Int) < (k : Int) := by omega
          clear hll hln
          go_wp2_with fail
          have HK0 := hide HK.out
          go_loopw [6] (fun t wr => ∃ q : Nat, q ≤ ln ∧ t = .int .i64 q ∧ Hid (Keeps Non w wr) ∧ Hid (∀ x ∈ ll.take q, 0 ≤ x ∧ x < (next.length : Int))) (fun t _ => ln - (intOf t).toNat)
          case atStart => exact ⟨0, by omega, rfl, HK0.out, fun x hx => by simp at hx⟩
          case round =>
            clear HK HK0
            obtain ⟨q, hq, rfl, HK, HB⟩ := hrel
            obtain ⟨b, off, rfl, lb, hc⟩ := (HX.out.non HK.out).at (by omega)
            obtain ⟨ai, ci, cr, hI⟩ := hc p hlt
            rw [HLl.out, HLm.out] at cr hI
            have lm := HLm.out
            have lnn := HLn.out
            by_cases hql : q < ln
            · obtain ⟨b2, o2, rfl, lb2, hc2⟩ := hI.at (by omega)
              have cq := hc2 q hql
              have hta := take_mem_all (P := fun x => 0 ≤ x ∧ x < (next.length : Int)) (xs := ll) (k := q) (by omega) HB.out
              have hmem : ll.getD q 0 ∈ ll := by rw [getD_num (by omega)]; exact List.getElem_mem _
              obtain ⟨x, hx⟩ : ∃ x, ll.getD q 0 = x := ⟨_, rfl⟩
              rw [hx] at cq hta hmem
              have q0 : (0 : Int) ≤ (q : Int) := by omega
              have q1 : (q : Int) < (ln : Int) := by omega
              have HM := hide hmem
              by_cases hbad : 0 ≤ x ∧ x < (k : Int)
              · have u1 : ¬ x < 0 := by omega
                have u2 : ¬ (k : Int) ≤ x := by omega
                have HB2 := hide (hta (by rw [lnn]; exact hbad))
                clear hc hc2 hx hta hmem hI lm lnn
                go_wp2_with fail
                go_roundw
                case rel => exact ⟨q + 1, by omega, by go_num, HK.out, HB2.out⟩
                case measure => simp [intOf]; omega
              · have HE : Hid (checkB next = false) := by
                  show _ = _
                  rw [← Bool.not_eq_true]
                  intro hc9
                  have h9 := (checkB_iff.1 hc9).2.2 (next.getD p []) (getD_mem (by omega)) x (by rw [HLl.out]; exact HM.out)
                  rw [lnn] at h9
                  exact hbad h9
                by_cases hx0 : x < 0
                · clear hc hc2 hx hta hmem hI lm lnn hbad
                  go_wp2_with fail
                  try rw [Exit.noGoto_ret]
                  go_ret
                  exact ⟨ret_bool (by rw [HE.out]), HK.out⟩
                · have u2 : (k : Int) ≤ x := by omega
                  clear hc hc2 hx hta hmem hI lm lnn hbad
                  go_wp2_with fail
                  try rw [Exit.noGoto_ret]
                  go_ret
                  exact ⟨ret_bool (by rw [HE.out]), HK.out⟩
            · have hqq : q = ln := by omega
              subst hqq
              have y8 : ¬ (q : Int) < (q : Int) := by omega
              have HA2 := hide (row_mem (next := next) (k := p) (by omega) HA.out (by
                rw [HLl.out]
                have := HB.out
                rwa [List.take_of_length_le (by omega)] at this))
              clear hc hI lm lnn
              go_wp2_with fail
              go_roundw
              case rel => exact ⟨p + 1, by omega, by go_num, HK.out, HA2.out⟩
              case measure => simp [intOf]; omega
        · have hpk : p = k := by omega
          subst hpk
          have y8 : ¬ (p : Int) < (p : Int) := by omega
          have HE : Hid (checkB next = true) := by
            refine checkB_iff.2 ⟨by have := HLn.out; omega, by have := HTt.out; omega, ?_⟩
            have := HA.out
            rwa [List.take_of_length_le (by have := HLn.out; omega)] at this
          go_wp2_with fail
          try rw [Exit.noGoto_ret]
          go_ret
          exact ⟨ret_bool (by rw [HE.out]), HK.out⟩
/-- From where edges lead to t, up to m. -/
def rowK (next : List (List Int)) (t m : Nat) : List Int := ((List.range m).filter fun (j : Nat) => decide ((t : Int) ∈ next.getD j [])).map fun (j : Nat) => (j : Int)
theorem rowK_yes {next : List (List Int)} {t m : Nat} (h : (t : Int) ∈ next.getD m []) : rowK next t (m + 1) = rowK next t m ++ [(m : Int)] := by
  unfold rowK
  rw [List.range_succ, List.filter_append, List.map_append, List.filter_cons_of_pos (by simpa using h)]
  rfl
theorem rowK_no {next : List (List Int)} {t m : Nat} (h : (t : Int) ∉ next.getD m []) : rowK next t (m + 1) = rowK next t m := by
  unfold rowK
  rw [List.range_succ, List.filter_append, List.map_append, List.filter_cons_of_neg (by simpa using h)]
  simp
theorem rowK_length (next : List (List Int)) (t m : Nat) : (rowK next t m).length ≤ m := by
  unfold rowK
  rw [List.length_map]
  exact Nat.le_trans (List.length_filter_le _ _) (by simp)
theorem take_snocR {xss : List (List Int)} {k : Nat} (h : k < xss.length) {ys : List Int} (hy : xss.getD k [] = ys) : xss.take (k + 1) = xss.take k ++ [ys] := by
  rw [List.take_succ_eq_append_getElem h, ← hy, getD_numL h]
set_option maxRecDepth 100000 in
set_option maxHeartbeats 4000000 in
theorem refback_l (a : Option Addr) (n cap : Nat) (next : List (List Int)) (w : World) (h : Rows w a n next) (hc : checkB next = true) (hn : n ≤ 25) :
    Calls Try.prog 53 #[.slice a n cap] w fun e w' => ∃ v, e = .returned v ∧ GotRows w w' v (backL next n) := by
  obtain ⟨i0, hi, hz0, hz1, hz2⟩ := info3_parts
  obtain ⟨i1, hj, hy0, hy1, hy2⟩ := info25_parts
  have HX := hide h
  have hlen := h.len
  have HBl : Hid ((backL next n).length = n) := backL_length _ _
  have HBa : Hid (∀ t, t < n → (backL next n).getD t [] = rowK next t n) := fun t ht => by
    have := backL_at hc t (by omega)
    rw [hlen] at this
    exact this
  obtain ⟨Bk, hBk⟩ : ∃ B, backL next n = B := ⟨_, rfl⟩
  rw [hBk] at HBl HBa ⊢
  clear h hc hBk hlen
  go_enter Try.func53, Try.ntmps53
  go_wp2_with fail
  go_loopw [4, 3] (fun i v wr => ∃ (k : Nat) (S : List Value), k ≤ n ∧ i = .int .i64 k ∧ Hid (wr.ownsRow w.heap.size 25 1 v k S) ∧ Hid (Kids wr S (Bk.take k) v.ownBlock) ∧ Hid (Keeps Non w wr)) (fun i _ _ => n - (intOf i).toNat)
  case atStart => exact ⟨0, [], by omega, rfl, World.ownsRow_nil _ _ _ _, kids_none _ _ _, Keeps.refl _ _⟩
  case round =>
    obtain ⟨k, S, hk, rfl, HO, HKd, HK⟩ := hrel
    by_cases hlt : k < n
    · have k0 : (0 : Int) ≤ (k : Int) := by omega
      have k1 : (k : Int) < (n : Int) := by omega
      obtain ⟨w0, hw0⟩ : ∃ w0, w0 = wr := ⟨_, rfl⟩
      subst hw0
      go_wp2_with fail
      go_loopw [6, 5] (fun t u wi => ∃ (m : Nat), m ≤ n ∧ t = .int .i64 m ∧ Hid (wi.ownsRow w0.heap.size 3 1 u (rowK next k m).length ((rowK next k m).map (Value.int .i64))) ∧ Hid (Keeps Non w0 wi)) (fun t _ _ => n - (intOf t).toNat)
      case atStart => exact ⟨0, by omega, rfl, World.ownsRow_nil _ _ _ _, Keeps.refl _ _⟩
      case round =>
        obtain ⟨m, hm, rfl, HU, HKi⟩ := hrel
        have hul := rowK_length next k m
        obtain ⟨ys, hys⟩ : ∃ y, rowK next k m = y := ⟨_, rfl⟩
        obtain ⟨yl, hyl⟩ : ∃ y, ys.length = y := ⟨_, rfl⟩
        rw [hys, hyl] at HU hul
        have HYs := hide hys
        have HYl := hide hyl
        clear hys hyl
        obtain ⟨a9, c9, hv9⟩ := owns_slice HU.out
        subst hv9
        by_cases hlm : m < n
        · obtain ⟨b, off, rfl, lb, hcc⟩ := (HX.out.non (HK.out.then HKi.out)).at (by omega)
          obtain ⟨ai, ci, cr, hI⟩ := hcc m hlm
          have HH := hide (has_l ai (next.getD m []).length ci (next.getD m []) (k : Int) wr hI)
          obtain ⟨ln, hln⟩ : ∃ l, (next.getD m []).length = l := ⟨_, rfl⟩
          rw [hln] at cr HH
          have m0 : (0 : Int) ≤ (m : Int) := by omega
          have m1 : (m : Int) < (n : Int) := by omega
          by_cases hin : (k : Int) ∈ next.getD m []
          · rw [decide_eq_true hin] at HH
            have HE := hide (rowK_yes hin)
            rw [HYs.out] at HE
            clear hcc hI hln hin
            go_wp2_with fail
            refine HH.out.mono ?_
            rintro e w4 ⟨rfl, hk4⟩
            have HK4 := hide (HKi.out.then hk4)
            have HU4 := hide (owns_keeps HU.out hk4 (fun _ _ x => x))
            clear hk4 HH
            go_wp2_with (at_builtin; refine wpList_append_own_at _ rfl _ _ 25 rfl w0.heap.size 3 i0 (.int .i64 0) 1 8 Try.underlying25 hi hz0 hz1 hz2 rfl (by decide) (.slice a9 yl c9) yl (ys.map (Value.int .i64)) rfl (owns_keeps HU4.out ((Keeps.refl Non _).alloc _) (fun _ _ x => x)) ⟨w4.heap.size, 0, none⟩ 1 1 [.int .i64 (m : Int)] rfl ?qc1 ?qc2 ?qc3 ?qc4 ?qc5 ?qc6 ?_)
            case qc1 => rfl
            case qc2 => exact cell_one_new _ _ _
            case qc3 => intro u hu; simp at hu; subst hu; rfl
            case qc4 => unfold maxLen; omega
            case qc5 => omega
            case qc6 => simp; have := HK4.out.size; omega
            intro v' w5 hown hgrow hnil2 hat
            have HO5 := hide hown
            have HG5 := hide (keeps_grown (Keeps.refl (fun b => some b = Value.ownBlock (.slice a9 yl c9)) _) hgrow (fun g hg => .inl hg.symm))
            have HLt := hide (owns_here HU.out)
            clear hown hgrow hnil2 hat
            go_wp2_with fail
            go_roundw
            case rel => exact ⟨m + 1, by omega, by go_num, by rw [HE.out, List.length_append, List.map_append, HYl.out]; exact HO5.out, (HK4.out.alloc _).trans HG5.out (fun i hi e => by have := (HLt.out i e.symm).1; omega)⟩
            case measure => simp [intOf]; omega
          · rw [decide_eq_false hin] at HH
            have HE := hide (rowK_no hin)
            rw [HYs.out] at HE
            clear hcc hI hln hin
            go_wp2_with fail
            refine HH.out.mono ?_
            rintro e w4 ⟨rfl, hk4⟩
            have HK4 := hide (HKi.out.then hk4)
            have HU4 := hide (owns_keeps HU.out hk4 (fun _ _ x => x))
            clear hk4 HH
            go_wp2_with fail
            go_roundw
            case rel => exact ⟨m + 1, by omega, by go_num, by rw [HE.out, HYl.out]; exact HU4.out, HK4.out⟩
            case measure => simp [intOf]; omega
        · have hmn : m = n := by omega
          subst hmn
          have y9 : ¬ (m : Int) < (m : Int) := by omega
          obtain ⟨a8, c8, hv8, hI⟩ := ints_of_owns HU.out (by omega)
          cases hv8
          have HI := hide hI
          have HLu := hide (owns_lt HU.out)
          have hba := HBa.out k hlt
          rw [HYs.out] at hba
          have HSn := hide (take_snocR (xss := Bk) (k := k) (by rw [HBl.out]; exact hlt) hba)
          clear hI hba
          go_wp2_with (at_builtin; refine wpList_append_own_at _ rfl _ _ 23 rfl w.heap.size 25 i1 (.slice none 0 0) 1 24 Try.underlying23 hj hy0 hy1 hy2 rfl (by decide) _ k S rfl (owns_keeps HO.out (HKi.out.alloc _) (fun _ _ x => x)) ⟨wr.heap.size, 0, none⟩ 1 1 [.slice a9 yl c9] rfl ?qd1 ?qd2 ?qd3 ?qd4 ?qd5 ?qd6 ?_)
          case qd3 => first | rfl | (intro u hu; simp at hu; subst hu; rfl)
          case qd4 => unfold maxLen; omega
          case qd5 => omega
          case qd6 => (try simp); have := HK.out.size; have := HKi.out.size; omega
          intro v' w5 hown hgrow hnil hat
          have HO5 := hide hown
          have HKd5 := hide (kids_push (c4 := c9) (v' := v') HKd.out HO.out (by rw [List.length_take, HBl.out]; omega) (HKi.out.alloc (.cells #[.slice a9 yl c9] 25)) HYl.out (HI.out.non ((Keeps.refl Non _).alloc _)) (fun b o e => by
            subst e
            have := HLu.out b rfl
            rw [World.size_alloc]
            omega) hgrow (by rw [World.size_alloc]; exact hat))
          have HKn : Hid (Keeps Non w w5) := keeps_grown ((HK.out.then HKi.out).alloc _) hgrow (fun g hg => .inr (own_ge HO.out g hg))
          clear hown hgrow hnil hat
          go_wp2_with fail
          go_roundw
          case rel => exact ⟨k + 1, _, by omega, by go_num, HO5.out, by rw [HSn.out]; exact HKd5.out, HKn.out⟩
          case measure => simp [intOf]; omega
    · have hkn : k = n := by omega
      subst hkn
      have y9 : ¬ (k : Int) < (k : Int) := by omega
      have hKd := HKd.out
      rw [List.take_of_length_le (by rw [HBl.out]; exact Nat.le_refl _)] at hKd
      obtain ⟨a6, c6, hv6, hR⟩ := kids_rows hKd HO.out HBl.out (by omega)
      subst hv6
      have HE : Hid (GotRows w wr (.slice a6 k c6) Bk) := ⟨a6, c6, by rw [HBl.out], by rw [HBl.out]; exact hR, HK.out⟩
      clear hKd hR
      go_wp2_with fail
      try rw [Exit.noGoto_ret]
      go_ret
      exact ⟨_, rfl, HE.out⟩
end Go.Proofs.Ythpdflpkkiabhaa
