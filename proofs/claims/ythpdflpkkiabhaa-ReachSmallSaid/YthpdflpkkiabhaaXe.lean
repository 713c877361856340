/-
  The reference: Rings. No condition.
-/
import Derived.Test.YthpdflpkkiabhaaXd
import Derived.Test.YthpdflpkkiabhaaXb
import Derived.Test.YthpdflpkkiabhaaPr
namespace Go.Proofs.Ythpdflpkkiabhaa
open Go.RowKit
attribute [local go_sem] onto_cell onto_frozen
set_option linter.unusedVariables false
def pcB (next : List (List Int)) (n p q : Nat) : Bool := decide (0 ≤ (waysL next n p).getD q 0) && decide (0 ≤ (waysL next n q).getD p 0)
def leastOf (next : List (List Int)) (n p : Nat) : Nat := ((List.range n).find? (pcB next n p)).getD 0
def leastL (next : List (List Int)) (n : Nat) : List Int := (List.range n).map fun p => (leastOf next n p : Int)
def tabW (next : List (List Int)) (n : Nat) : List (List Int) := (List.range n).map fun (p : Nat) => waysL next n p
theorem leastL_length (next : List (List Int)) (n : Nat) : (leastL next n).length = n := by simp [leastL]
theorem leastL_at {next : List (List Int)} {n p : Nat} (h : p < n) : (leastL next n).getD p 0 = leastOf next n p := by
  rw [getD_num (by rw [leastL_length]; exact h)]
  simp [leastL]
theorem tabW_length (next : List (List Int)) (n : Nat) : (tabW next n).length = n := by simp [tabW]
theorem tabW_at {next : List (List Int)} {n p : Nat} (h : p < n) : (tabW next n).getD p [] = waysL next n p := by
  rw [getD_numL (by rw [tabW_length]; exact h)]
  simp [tabW]
theorem leastOf_eq {next : List (List Int)} {n p q : Nat} (hq : q < n) (h : pcB next n p q = true) (hl : ∀ j, j < q → pcB next n p j = false) : leastOf next n p = q := by
  unfold leastOf
  cases hf : (List.range n).find? (pcB next n p) with
  | none => exact absurd h (List.find?_eq_none.1 hf q (List.mem_range.2 hq))
  | some j =>
    have h1 := List.find?_some hf
    have h2 := List.find?_eq_some_iff_append.1 hf
    obtain ⟨_, us, bs, hab, hno⟩ := h2
    show j = q
    rcases Nat.lt_trichotomy j q with h3 | h3 | h3
    · rw [hl j h3] at h1
      cases h1
    · exact h3
    · exfalso
      have hjl : us.length = j := by
        have h4 : (List.range n)[us.length]? = some j := by rw [hab, List.getElem?_append_right (Nat.le_refl _)]; simp
        have h5 := (List.getElem?_eq_some_iff.1 h4)
        obtain ⟨h6, h7⟩ := h5
        rw [List.getElem_range] at h7
        exact h7
      have hqa : q ∈ us := by
        have h4 : (List.range n)[q]? = some q := by rw [List.getElem?_range hq]
        rw [hab, List.getElem?_append_left (by omega)] at h4
        exact List.mem_of_getElem? h4
      have := hno q hqa
      rw [h] at this
      cases this
theorem pcB_iff {next : List (List Int)} (hc : checkB next = true) {p q : Nat} (hp : p < next.length) (hq : q < next.length) : pcB next next.length p q = true ↔ MutP next p q := by
  rw [← ringsL_eq hc hp hq, (rings_plain hc rfl rfl).same p q hp hq]
  unfold pcB
  rw [Bool.and_eq_true, decide_eq_true_iff, decide_eq_true_iff]
theorem pcB_self {next : List (List Int)} (hc : checkB next = true) {p : Nat} (hp : p < next.length) : pcB next next.length p p = true := (pcB_iff hc hp hp).2 ⟨.refl (by omega), .refl (by omega)⟩
theorem leastOf_pc {next : List (List Int)} (hc : checkB next = true) {p : Nat} (hp : p < next.length) : leastOf next next.length p < next.length ∧ MutP next p (leastOf next next.length p) := by
  unfold leastOf
  cases hf : (List.range next.length).find? (pcB next next.length p) with
  | none => exact absurd (pcB_self hc hp) (List.find?_eq_none.1 hf p (List.mem_range.2 hp))
  | some j =>
    have h1 := List.find?_some hf
    have h2 := List.mem_range.1 (List.mem_of_find?_eq_some hf)
    exact ⟨h2, (pcB_iff hc hp h2).1 h1⟩
theorem rings_least {next : List (List Int)} (hc : checkB next = true) : ringsL next next.length = numb [] (leastL next next.length) := by
  unfold ringsL
  refine numb_of_same _ _ (by rw [ringTo_length, leastL_length]) fun i j hi hj => ?_
  rw [ringTo_length] at hi hj
  rw [ringTo_at hc _ (Nat.le_refl _) i hi, ringTo_at hc _ (Nat.le_refl _) j hj, ringV_eq hc hi hj, leastL_at hi, leastL_at hj]
  obtain ⟨i1, i2⟩ := leastOf_pc hc hi
  obtain ⟨j1, j2⟩ := leastOf_pc hc hj
  constructor
  · intro h
    have e : ∀ l : List Nat, (∀ x ∈ l, x < next.length) → l.find? (pcB next next.length i) = l.find? (pcB next next.length j) := fun l => by
      induction l with
      | nil => intro _; rfl
      | cons x l ih =>
        intro hl
        have hx := hl x (by simp)
        have : pcB next next.length i x = pcB next next.length j x := by
          rw [Bool.eq_iff_iff, pcB_iff hc hi hx, pcB_iff hc hj hx]
          exact ⟨fun k => h.symm.trans k, fun k => h.trans k⟩
        rw [List.find?_cons, List.find?_cons, this, ih (fun y hy => hl y (by simp [hy]))]
    unfold leastOf
    rw [e _ (fun x hx => List.mem_range.1 hx)]
  · intro h
    have e : leastOf next next.length i = leastOf next next.length j := by omega
    rw [e] at i2
    exact i2.trans j2.symm
theorem take_snocI' {xs : List Int} {k : Nat} (h : k < xs.length) : xs.take (k + 1) = xs.take k ++ [xs.getD k 0] := take_snocI h rfl
set_option maxRecDepth 100000 in
set_option maxHeartbeats 4000000 in
theorem refrings_l (a : Option Addr) (n cap : Nat) (next : List (List Int)) (w : World) (h : Rows w a n next) (hc : checkB next = true) (hn : n ≤ 25) (hsh : ∀ i, (next.getD i []).length ≤ 100000) :
    Calls Try.prog 54 #[.slice a n cap] w fun e w' => ∃ v, e = .returned v ∧ GotInts w w' v (ringsL next n) := by
  obtain ⟨i0, hi, hz0, hz1, hz2⟩ := info3_parts
  obtain ⟨i1, hj, hy0, hy1, hy2⟩ := info25_parts
  have HX := hide h
  have HC := hide hc
  have hlen := h.len
  have HRl := hide (rings_least hc)
  rw [hlen] at HRl
  have HSelf := hide (fun p (hp : p < n) => pcB_self hc (p := p) (by omega))
  rw [hlen] at HSelf
  have HSh := hide hsh
  have HTl := hide (tabW_length next n)
  have HTa := hide (fun p (hp : p < n) => tabW_at (next := next) hp)
  have HWl := hide (fun p : Nat => (show (waysL next n p).length = n from goW_length _ _))
  have HLl := hide (leastL_length next n)
  have HLa := hide (fun p (hp : p < n) => leastL_at (next := next) hp)
  clear h hc hsh hlen
  go_enter Try.func54, Try.ntmps54
  go_wp2_with fail
  go_loopw [4, 3] (fun i v wr => ∃ (k : Nat) (S : List Value), k ≤ n ∧ i = .int .i64 k ∧ Hid (wr.ownsRow w.heap.size 25 1 v k S) ∧ Hid (Kids wr S ((tabW next n).take k) v.ownBlock) ∧ Hid (Keeps Non w wr)) (fun i _ _ => n - (intOf i).toNat)
  case atStart => exact ⟨0, [], by omega, rfl, World.ownsRow_nil _ _ _ _, kids_none _ _ _, Keeps.refl _ _⟩
  case round =>
    obtain ⟨k, S, hk, rfl, HO, HKd, HK⟩ := hrel
    by_cases hlt : k < n
    · have HW := hide (refways_l a n cap next k wr (HX.out.non HK.out) HC.out hlt hn HSh.out)
      have hta := HTa.out k hlt
      have HSn := hide (take_snocR (xss := tabW next n) (k := k) (by rw [HTl.out]; exact hlt) hta)
      obtain ⟨Wy, hWy⟩ : ∃ W, waysL next n k = W := ⟨_, rfl⟩
      have hwl := HWl.out k
      rw [hWy] at HW HSn hwl
      have HWyl := hide hwl
      have k0 : (0 : Int) ≤ (k : Int) := by omega
      have k1 : (k : Int) < (n : Int) := by omega
      clear hta hWy hwl
      go_wp2_with fail
      refine HW.out.mono ?_
      rintro e w4 ⟨v4, rfl, b4, rfl, hb4, hB4, hk4⟩
      rw [HWyl.out]
      have hI4 := ints_of_blk hB4 (by rw [HWyl.out]; omega)
      rw [HWyl.out] at hI4
      have HI4 := hide hI4
      have HK4 := hide hk4
      have HB4 := hide (And.intro hb4 hB4.lt)
      clear hb4 hB4 hk4 hI4 HW
      go_wp2_with (at_builtin; refine wpList_append_own_at _ rfl _ _ 23 rfl w.heap.size 25 i1 (.slice none 0 0) 1 24 Try.underlying23 hj hy0 hy1 hy2 rfl (by decide) _ k S rfl (owns_keeps HO.out (HK4.out.alloc _) (fun _ _ x => x)) ⟨w4.heap.size, 0, none⟩ 1 1 [.slice (some ⟨b4, 0, none⟩) n n] rfl ?qd1 ?qd2 ?qd3 ?qd4 ?qd5 ?qd6 ?_)
      case qd1 => rfl
      case qd2 => exact cell_one_new _ _ _
      case qd3 => intro u hu; simp at hu; subst hu; rfl
      case qd4 => unfold maxLen; omega
      case qd5 => omega
      case qd6 => (try simp); have := HK.out.size; have := HK4.out.size; omega
      intro v' w5 hown hgrow hnil hat
      have HO5 := hide hown
      have HKd5 := hide (kids_push (c4 := n) (v' := v') HKd.out HO.out (by rw [List.length_take, HTl.out]; omega) (HK4.out.alloc (.cells #[.slice (some ⟨b4, 0, none⟩) n n] 25)) HWyl.out (HI4.out.non ((Keeps.refl Non _).alloc _)) (fun b o e => by
        cases e
        have := HB4.out
        rw [World.size_alloc]
        omega) hgrow (by rw [World.size_alloc]; exact hat))
      have HKn : Hid (Keeps Non w w5) := keeps_grown ((HK.out.then HK4.out).alloc _) hgrow (fun g hg => .inr (own_ge HO.out g hg))
      clear hown hgrow hnil hat
      go_wp2_with fail
      go_roundw
      case rel => exact ⟨k + 1, _, by omega, by go_num, HO5.out, by rw [HSn.out]; exact HKd5.out, HKn.out⟩
      case measure => simp [intOf]; omega
    · have hkn : k = n := by omega
      subst hkn
      have y9 : ¬ (k : Int) < (k : Int) := by omega
      have hKd := HKd.out
      rw [List.take_of_length_le (by rw [HTl.out]; exact Nat.le_refl _)] at hKd
      obtain ⟨a6, c6, hv6, hR⟩ := kids_rows hKd HO.out HTl.out (by omega)
      subst hv6
      have HRt := hide hR
      have HK0 := hide HK.out
      obtain ⟨w0, hw0⟩ : ∃ w0, w0 = wr := ⟨_, rfl⟩
      subst hw0
      clear hKd hR
      go_wp2_with fail
      go_loopw [6, 5] (fun t u wi => ∃ (p : Nat), p ≤ k ∧ t = .int .i64 p ∧ Hid (wi.ownsRow w0.heap.size 3 1 u p (((leastL next k).take p).map (Value.int .i64))) ∧ Hid (Keeps Non w0 wi)) (fun t _ _ => k - (intOf t).toNat)
      case atStart => exact ⟨0, by omega, rfl, World.ownsRow_nil _ _ _ _, Keeps.refl _ _⟩
      case round =>
        obtain ⟨p, hp, rfl, HU, HKi⟩ := hrel
        obtain ⟨a9, c9, hv9⟩ := owns_slice HU.out
        subst hv9
        by_cases hpk : p < k
        · have p0 : (0 : Int) ≤ (p : Int) := by omega
          have p1 : (p : Int) < (k : Int) := by omega
          have HSp := hide (HSelf.out p hpk)
          go_wp2_with fail
          have HU1 := hide HU.out
          have HKi1 := hide HKi.out
          go_loopw [7] (fun t wj => ∃ (q : Nat), q ≤ p ∧ t = .int .i64 q ∧ Hid (∀ j, j < q → pcB next k p j = false) ∧ Hid (wj.ownsRow w0.heap.size 3 1 (.slice a9 p c9) p (((leastL next k).take p).map (Value.int .i64))) ∧ Hid (Keeps Non w0 wj)) (fun t _ => k - (intOf t).toNat)
          case atStart => exact ⟨0, by omega, rfl, fun j hj => by omega, HU1.out, HKi1.out⟩
          case round =>
            clear HU HKi HU1 HKi1
            obtain ⟨q, hq, rfl, HN, HU, HKi⟩ := hrel
            obtain ⟨b2, o2, hb2, lb2, hc2⟩ := (HRt.out.non HKi.out).at (by omega)
            subst hb2
            obtain ⟨a3, c3, cr3, hI3⟩ := hc2 p hpk
            obtain ⟨a4, c4, cr4, hI4⟩ := hc2 q (by omega)
            rw [HTa.out p hpk, HWl.out p] at cr3 hI3
            rw [HTa.out q (by omega), HWl.out q] at cr4 hI4
            obtain ⟨b5, o5, hb5, lb5, hc5⟩ := hI3.at (by omega)
            subst hb5
            obtain ⟨b6, o6, hb6, lb6, hc6⟩ := hI4.at (by omega)
            subst hb6
            have cx := hc5 q (by omega)
            have cy := hc6 p hpk
            obtain ⟨x, hx⟩ : ∃ x, (waysL next k p).getD q 0 = x := ⟨_, rfl⟩
            obtain ⟨y, hy⟩ : ∃ y, (waysL next k q).getD p 0 = y := ⟨_, rfl⟩
            rw [hx] at cx
            rw [hy] at cy
            have q0 : (0 : Int) ≤ (q : Int) := by omega
            have q1 : (q : Int) < (k : Int) := by omega
            have hpc : pcB next k p q = (decide (0 ≤ x) && decide (0 ≤ y)) := by unfold pcB; rw [hx, hy]
            by_cases hin : 0 ≤ x ∧ 0 ≤ y
            · have g1 : ¬ x < 0 := by omega
              have g2 : ¬ y < 0 := by omega
              have HE := hide (leastOf_eq (next := next) (n := k) (p := p) (q := q) (by omega) (by rw [hpc]; simp [hin]) HN.out)
              have hsn := take_snocI' (xs := leastL next k) (k := p) (by rw [HLl.out]; exact hpk)
              rw [HLa.out p hpk, HE.out] at hsn
              have HSn := hide hsn
              clear hc2 hI3 hI4 hc5 hc6 hx hy hpc hsn hin
              go_wp2_with (at_builtin; refine wpList_append_own_at _ rfl _ _ 25 rfl w0.heap.size 3 i0 (.int .i64 0) 1 8 Try.underlying25 hi hz0 hz1 hz2 rfl (by decide) (.slice a9 p c9) p (((leastL next k).take p).map (Value.int .i64)) rfl (owns_keeps HU.out ((Keeps.refl Non _).alloc _) (fun _ _ x => x)) ⟨wr.heap.size, 0, none⟩ 1 1 [.int .i64 (q : Int)] rfl ?qc1 ?qc2 ?qc3 ?qc4 ?qc5 ?qc6 ?_)
              case qc3 => first | rfl | (intro u hu; simp at hu; subst hu; rfl)
              case qc4 => unfold maxLen; omega
              case qc5 => omega
              case qc6 => (try simp); have := HKi.out.size; omega
              intro v' w5 hown hgrow hnil2 hat
              have HO5 := hide hown
              have HG5 := hide (keeps_grown (Keeps.refl (fun b => some b = Value.ownBlock (.slice a9 p c9)) _) hgrow (fun g hg => .inl hg.symm))
              have HLt := hide (owns_here HU.out)
              clear hown hgrow hnil2 hat
              go_wp2_with fail
              go_roundw
              case rel => exact ⟨p + 1, by omega, by go_num, by rw [HSn.out, List.map_append, List.map_take]; exact HO5.out, (HKi.out.alloc _).trans HG5.out (fun i hi e => by have := (HLt.out i e.symm).1; omega)⟩
              case measure => simp [intOf]; omega
            · have hqp : q ≠ p := by
                rintro rfl
                have := HSp.out
                rw [hpc] at this
                simp at this
                omega
              have HN2 : Hid (∀ j, j < q + 1 → pcB next k p j = false) := fun j hj => by
                by_cases hjq : j = q
                · subst hjq
                  rw [hpc]
                  by_cases h1 : 0 ≤ x
                  · have h2 : ¬ 0 ≤ y := by omega
                    simp [h2]
                  · simp [h1]
                · exact HN.out j (by omega)
              by_cases hx0 : x < 0
              · clear hc2 hI3 hI4 hc5 hc6 hx hy hpc hin
                go_wp2_with fail
                go_roundw
                case rel => exact ⟨q + 1, by omega, by go_num, HN2.out, HU.out, HKi.out⟩
                case measure => simp [intOf]; omega
              · have g2 : y < 0 := by omega
                clear hc2 hI3 hI4 hc5 hc6 hx hy hpc hin
                go_wp2_with fail
                go_roundw
                case rel => exact ⟨q + 1, by omega, by go_num, HN2.out, HU.out, HKi.out⟩
                case measure => simp [intOf]; omega
        · have hpp : p = k := by omega
          subst hpp
          have y8 : ¬ (p : Int) < (p : Int) := by omega
          have hu := HU.out
          rw [List.take_of_length_le (by rw [HLl.out]; exact Nat.le_refl _)] at hu
          obtain ⟨a8, c8, hv8, hI⟩ := ints_of_owns hu (by omega)
          cases hv8
          have HF := hide (intsR_l a9 p c9 (leastL next p) wr hI (by omega))
          rw [← HRl.out] at HF
          clear hu hI
          go_wp2_with fail
          refine HF.out.mono ?_
          rintro e w7 ⟨v, rfl, a7, c7, rfl, hI7, hk7⟩
          have HE : Hid (GotInts w w7 (.slice a7 (ringsL next p).length c7) (ringsL next p)) := ⟨a7, c7, rfl, hI7, (HK0.out.then HKi.out).then hk7⟩
          clear hI7 hk7 HF
          go_wp2_with fail
          try rw [Exit.noGoto_ret]
          go_ret
          exact ⟨_, rfl, HE.out⟩
end Go.Proofs.Ythpdflpkkiabhaa
