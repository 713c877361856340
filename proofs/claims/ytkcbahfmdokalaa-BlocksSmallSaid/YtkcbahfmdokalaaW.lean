/-
  Walks over layer 6's reference: Texts; strings cloned and compared. No condition.
-/
import Derived.Test.YtkcbahfmdokalaaV
import Derived.Test.YtkcbahfmdokalaaT
namespace Go.Proofs.Ytkcbahfmdokalaa
open Go.RowKit
attribute [local go_sem] onto_cell onto_frozen
set_option linter.unusedVariables false
theorem StrsIn.non {w w' : World} {a : Option Addr} {n : Nat} {xs : List ByteArray} (h : StrsIn w a n xs) (k : Keeps Non w w') : StrsIn w' a n xs :=
  ⟨h.len, h.big, h.cell.imp id fun ⟨b, off, ha, hb, hc⟩ => ⟨b, off, ha, Nat.lt_of_lt_of_le hb k.size, fun i hi => (k.cell (p := ⟨b, off + i, none⟩) hb (fun x => x)).trans (hc i hi)⟩⟩
theorem equal_str (a : Option Addr) (n cap : Nat) (xs : List ByteArray) (b : Option Addr) (m cap2 : Nat) (ys : List ByteArray) (w : World) (h : StrsIn w a n xs) (h2 : StrsIn w b m ys) :
    Calls Try.prog 20 #[.slice a n cap, .slice b m cap2] w fun e w' => e = .returned (.bool (decide (xs = ys))) ∧ Keeps Non w w' := by
  have hb := h.big
  have hb2 := h2.big
  obtain rfl := h.len
  obtain rfl := h2.len
  by_cases hnm : xs.length = ys.length
  · by_cases h0 : xs.length = 0
    · have hx : xs = [] := List.eq_nil_of_length_eq_zero h0
      have hy : ys = [] := List.eq_nil_of_length_eq_zero (by omega)
      subst hx
      subst hy
      refine (Try.slices_Equal_string_empty a b cap 0 cap2 w (by omega)).mono ?_
      rintro e w' ⟨rfl, rfl⟩
      exact ⟨rfl, Keeps.refl _ _⟩
    · obtain ⟨b1, o1, rfl, hb1, hc1⟩ := h.at (by omega)
      obtain ⟨b2, o2, rfl, hb2', hc2⟩ := h2.at (by omega)
      refine (Try.slices_Equal_string b1 o1 xs.length cap b2 o2 ys.length cap2 xs ys w (Nat.le_refl _) (Nat.le_refl _) (by omega) (by omega) hc1 hc2).mono ?_
      rintro e w' ⟨rfl, q, rfl⟩
      rw [List.take_length, List.take_length]
      exact ⟨rfl, (Keeps.refl _ _).drewN q⟩
  · refine (Try.slices_Equal_string_lens a b xs.length cap ys.length cap2 w hnm).mono ?_
    rintro e w' ⟨rfl, rfl⟩
    refine ⟨?_, Keeps.refl _ _⟩
    rw [decide_eq_false (fun e => hnm (by rw [e]))]
theorem strs_of_owns {w : World} {B e n : Nat} {v : Value} {xs : List ByteArray} (h : w.ownsRow B e 1 v n (xs.map Value.string)) (hb : n ≤ 17592186044416) : ∃ a cap, v = .slice a n cap ∧ StrsIn w a n xs := by
  obtain ⟨hl, h2⟩ := h
  have hlen : xs.length = n := by simpa using hl
  rcases h2 with ⟨rfl, rfl⟩ | ⟨g, cap, cur, rfl, hg, hh, hnc, hcm, hsz, htk⟩
  · exact ⟨none, 0, rfl, hlen, hb, .inl rfl⟩
  · refine ⟨some ⟨g, 0, none⟩, cap, rfl, hlen, hb, .inr ⟨g, 0, rfl, (Array.getElem?_eq_some_iff.1 hh).1, fun i hi => ?_⟩⟩
    have e1 : w.cell? ⟨g, 0 + i, none⟩ = cur[i]? := by simp [World.cell?, hh]
    have e2 : cur[i]? = (xs.map Value.string)[i]? := by
      rw [← htk, List.getElem?_take, if_pos (by omega)]
      simp
    rw [e1, e2, List.getElem?_map, List.getElem?_eq_getElem (by omega), List.getD_eq_getElem?_getD, List.getElem?_eq_getElem (by omega)]
    rfl
theorem clone_str (a : Option Addr) (n cap : Nat) (xs : List ByteArray) (w : World) (h : StrsIn w a n xs) (hn : n ≤ 1000000) :
    Calls Try.prog 16 #[.slice a n cap] w fun e w' => ∃ a' c', e = .returned (.slice a' n c') ∧ StrsIn w' a' n xs ∧ Keeps Non w w' := by
  obtain rfl := h.len
  cases a with
  | none =>
    have h0 : xs.length = 0 := by
      rcases h.cell with h1 | ⟨b, off, h1, _⟩
      · exact h1
      · cases h1
    refine (Try.slices_Clone_string_nil xs.length cap w).mono ?_
    rintro e w' ⟨rfl, rfl⟩
    have hx : xs = [] := List.eq_nil_of_length_eq_zero h0
    subst hx
    exact ⟨none, 0, rfl, ⟨rfl, by simp, .inl rfl⟩, Keeps.refl _ _⟩
  | some ad =>
    by_cases h0 : xs.length = 0
    · have hx : xs = [] := List.eq_nil_of_length_eq_zero h0
      subst hx
      refine (Try.slices_Clone_string_zero ad cap w).mono ?_
      rintro e w' ⟨v, rfl, ho, _, hb⟩
      obtain ⟨a2, c2, rfl, hI⟩ := strs_of_owns (xs := []) ho (by omega)
      exact ⟨a2, c2, rfl, hI, Keeps.of_below Non hb⟩
    · obtain ⟨b, off, hab, hb, hc⟩ := h.at (by omega)
      cases hab
      refine (Try.slices_Clone_string b off xs.length cap xs w (Nat.le_refl _) (by omega) (fun j hj => hc j hj)).mono ?_
      rintro e w' ⟨v, rfl, ho, _, hbl⟩
      rw [List.take_length] at ho
      obtain ⟨a2, c2, rfl, hI⟩ := strs_of_owns ho (by omega)
      exact ⟨a2, c2, rfl, hI, Keeps.of_below Non hbl⟩
/-- Where each string stands first. -/
structure FirstL (xs : List ByteArray) (k : Nat) (L : List Int) : Prop where
  len : L.length = k
  at' : ∀ i, i < k → ∃ t : Nat, L.getD i 0 = t ∧ t ≤ i ∧ xs.getD t ByteArray.empty = xs.getD i ByteArray.empty ∧ ∀ s, s < t → ¬ xs.getD s ByteArray.empty = xs.getD i ByteArray.empty
theorem firstL_ker {xs : List ByteArray} {L : List Int} (h : FirstL xs xs.length L) : numb [] L = numb [] (xs.map tl) := by
  refine numb_of_ker L (xs.map tl) (by rw [h.len]; simp) fun i j hi hj => ?_
  rw [h.len] at hi hj
  obtain ⟨t, ht, hti, hte, htn⟩ := h.at' i hi
  obtain ⟨s, hs, hsj, hse, hsn⟩ := h.at' j hj
  rw [getD_num (by rw [h.len]; exact hi)] at ht
  rw [getD_num (by rw [h.len]; exact hj)] at hs
  rw [ht, hs, List.getElem_map, List.getElem_map]
  have ei : xs[i] = xs.getD i ByteArray.empty := (getD_numL hi).symm
  have ej : xs[j] = xs.getD j ByteArray.empty := (getD_numL hj).symm
  have tinj : ∀ a b : ByteArray, tl a = tl b → a = b := fun a b hab => by
    cases a with
    | mk a =>
      cases b with
      | mk b =>
        unfold tl at hab
        congr 1
        exact Array.toList_inj.1 hab
  constructor
  · intro e
    have e2 : t = s := by omega
    subst e2
    rw [ei, ej, ← hte, ← hse]
  · intro e
    have e2 := tinj _ _ e
    rw [ei, ej] at e2
    have h1 : ¬ t < s := fun hlt => hsn t hlt (by rw [hte, e2])
    have h2 : ¬ s < t := fun hlt => htn s hlt (by rw [hse, e2])
    omega
set_option maxRecDepth 100000 in
set_option maxHeartbeats 8000000 in
theorem textsR_l (a : Option Addr) (n cap : Nat) (xs : List ByteArray) (w : World) (h : StrsIn w a n xs) (hn : n ≤ 2000) :
    Calls Try.prog 22 #[.slice a n cap] w fun e w' => ∃ v, e = .returned v ∧ GotInts w w' v (numb [] (xs.map tl)) := by
  obtain ⟨i0, hi, hz0, hz1, hz2⟩ := info3_parts
  have HX := hide h
  clear h
  go_enter Try.func22, Try.ntmps22
  go_wp2_with fail
  go_loopw [4, 3] (fun i v wr => ∃ (k : Nat) (L : List Int), k ≤ n ∧ i = .int .i64 k ∧ Hid (FirstL xs k L) ∧ Hid (wr.ownsRow w.heap.size 3 1 v k (L.map (Value.int .i64))) ∧ Hid (Keeps Non w wr)) (fun i _ _ => n - (intOf i).toNat)
  case atStart => exact ⟨0, [], by omega, rfl, ⟨rfl, fun i hi => by omega⟩, World.ownsRow_nil _ _ _ _, Keeps.refl _ _⟩
  case round =>
    obtain ⟨k, L, hk, rfl, HL, HO, HK⟩ := hrel
    by_cases hlt : k < n
    · obtain ⟨b1, o1, rfl, hb1, hc1⟩ := (HX.out.non HK.out).at (by omega)
      have HC1 := hide hc1
      have c1 := hc1 k hlt
      obtain ⟨x, hx⟩ : ∃ x, xs.getD k ByteArray.empty = x := ⟨_, rfl⟩
      rw [hx] at c1
      have HXx := hide hx
      have k0 : (0 : Int) ≤ (k : Int) := by omega
      have k1 : (k : Int) < (n : Int) := by omega
      obtain ⟨w0, hw0⟩ : ∃ w0, wr = w0 := ⟨_, rfl⟩
      have HW0 := hide hw0
      clear hc1 hx hw0
      go_wp2_with fail
      go_loopw [6, 5] (fun t y wi => ∃ (j at' : Nat), j ≤ k + 1 ∧ t = .int .i64 ((j : Int) - 1) ∧ y = .int .i64 at' ∧ at' ≤ k ∧ Hid (xs.getD at' ByteArray.empty = x) ∧ Hid (∀ s, j ≤ s → s < at' → ¬ xs.getD s ByteArray.empty = x) ∧ Hid (Keeps Non w0 wi)) (fun t _ _ => (intOf t + 1).toNat)
      case atStart => exact ⟨k + 1, k, by omega, by go_num, rfl, by omega, HXx.out, (fun s h1 h2 => by omega), by show Keeps Non _ _; rw [HW0.out]; exact Keeps.refl _ _⟩
      case round =>
        rw [HW0.out] at HO HK HC1 c1 hb1
        obtain ⟨j, at', hj, rfl, rfl, hat', HAt, HBf, HKi⟩ := hrel
        cases j with
        | succ j =>
          have ej : (((j + 1 : Nat) : Int) - 1) = (j : Int) := by omega
          rw [ej]
          have c2 := (HKi.out.cell (p := ⟨b1, o1 + j, none⟩) hb1 (fun x => x)).trans (HC1.out j (by omega))
          have c3 := (HKi.out.cell (p := ⟨b1, o1 + k, none⟩) hb1 (fun x => x)).trans c1
          have hb2 := Nat.lt_of_lt_of_le hb1 HKi.out.size
          obtain ⟨y, hy⟩ : ∃ y, xs.getD j ByteArray.empty = y := ⟨_, rfl⟩
          rw [hy] at c2
          have HYy := hide hy
          have j0 : (0 : Int) ≤ (j : Int) := by omega
          have j1 : (j : Int) < (n : Int) := by omega
          have j2 : IntKind.i64.wrap ((j : Int) - 1) = (j : Int) - 1 := IntWalk.i64_in _ (by omega)
          clear hy c1 hb1
          by_cases hyx : y = x
          · subst hyx
            go_wp2_with fail
            go_region
            all_goals
              go_wp2_with fail
              go_roundw
              case rel => exact ⟨j, j, by omega, rfl, rfl, by omega, HYy.out, (fun s h1 h2 => by omega), HKi.out.drew⟩
              case measure => simp [intOf]
          · have HNe := hide hyx
            have ht : (y.toList == x.toList) = false := by
              cases hc : (y.toList == x.toList) with
              | false => rfl
              | true =>
                rw [ByteArray.toList_eq, ByteArray.toList_eq] at hc
                exact absurd (WideShapes.bytes_inj (by simpa using hc)) hyx
            go_wp2_with fail
            go_region
            all_goals
              go_wp2_with fail
              go_roundw
              case rel => exact ⟨j, at', by omega, rfl, rfl, by omega, HAt.out, (fun s h1 h2 => by
                rcases Nat.eq_or_lt_of_le h1 with h3 | h3
                · subst h3
                  rw [HYy.out]
                  exact HNe.out
                · exact HBf.out s (by omega) h2), HKi.out.drew⟩
              case measure => simp [intOf]
        | zero =>
          have ej : (((0 : Nat) : Int) - 1) = -1 := by omega
          rw [ej]
          have a0 : (0 : Int) ≤ (at' : Int) := by omega
          have HLn : Hid (FirstL xs (k + 1) (L ++ [(at' : Int)])) := by
            have hl := HL.out.len
            refine ⟨by simp [hl], fun i hi => ?_⟩
            by_cases hik : i < k
            · obtain ⟨t, h1, h2⟩ := HL.out.at' i hik
              refine ⟨t, ?_, h2⟩
              rw [List.getD_eq_getElem?_getD, List.getElem?_append_left (by omega), ← List.getD_eq_getElem?_getD]
              exact h1
            · obtain rfl : i = k := by omega
              refine ⟨at', ?_, hat', by rw [HAt.out, HXx.out], fun s hs => by rw [HXx.out]; exact HBf.out s (by omega) hs⟩
              rw [List.getD_eq_getElem?_getD, List.getElem?_append_right (by omega), hl]
              simp
          clear c1 hb1
          go_wp2_with (at_builtin; refine wpList_append_own _ rfl _ _ 22 rfl w.heap.size 3 i0 (.int .i64 0) 1 8 Try.underlying22 hi hz0 hz1 hz2 rfl (by decide) _ k _ rfl (owns_keeps HO.out (HKi.out.alloc _) (fun _ _ x => x)) ⟨wr.heap.size, 0, none⟩ 1 1 [.int .i64 at'] rfl ?qc1 ?qc2 ?qc3 ?qc4 ?qc5 ?qc6 ?_)
          case qc1 => rfl
          case qc2 => exact cell_one_new _ _ _
          case qc3 => first | rfl | (intro u hu; simp at hu; subst hu; rfl)
          case qc4 => unfold maxLen; omega
          case qc5 => omega
          case qc6 => (try simp); have := HK.out.size; have := HKi.out.size; omega
          intro v' w5 hown hgrow hnil
          have HG := hide (And.intro hown hgrow)
          clear hown hgrow hnil
          go_wp2_with fail
          go_roundw
          case rel =>
            obtain ⟨hown, hgrow⟩ := HG.out
            refine ⟨k + 1, _, by omega, by go_num, HLn.out, ?_, keeps_grown ((HK.out.then HKi.out).alloc _) hgrow (fun g hg => .inr (own_ge HO.out g hg))⟩
            rw [List.map_append]
            exact hown
          case measure => simp [intOf]; omega
    · obtain rfl : n = k := by omega
      have y9 : ¬ (n : Int) < (n : Int) := by omega
      have hxl : xs.length = n := HX.out.len
      obtain ⟨a6, c6, rfl, hI⟩ := ints_of_owns HO.out (by omega)
      have hL := HL.out
      have hC := intsR_l a6 n c6 L wr hI (by omega)
      rw [firstL_ker (by rw [hxl]; exact hL)] at hC
      have HC := hide hC
      clear hI hC hL hxl
      go_wp2_with fail
      refine HC.out.mono ?_
      rintro e w4 ⟨v, rfl, a7, c7, rfl, hI, hk4⟩
      have HE : Hid (GotInts w w4 (.slice a7 (numb [] (xs.map tl)).length c7) (numb [] (xs.map tl))) := ⟨a7, c7, rfl, hI, HK.out.then hk4⟩
      clear hI hk4
      go_wp2_with fail
      go_ret
      exact ⟨_, rfl, HE.out⟩
end Go.Proofs.Ytkcbahfmdokalaa
