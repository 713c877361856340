/-
  copied, with whose the copies are; a copy with one list turned. No condition.
-/
import Derived.Test.YthpdflpkkiabhaaBk
namespace Go.Proofs.Ythpdflpkkiabhaa
open Go.RowKit
attribute [local go_sem] onto_cell onto_frozen
set_option linter.unusedVariables false
theorem owns_of_eq' {A B : World} {base e n : Nat} {v : Value} {xs : List Value} (h : A.ownsRow base e 1 v n xs) (k : ∀ g, v.ownBlock = some g → g < A.heap.size → B.heap[g]? = A.heap[g]?) : B.ownsRow base e 1 v n xs := by
  obtain ⟨hl, h2⟩ := h
  refine ⟨hl, h2.imp id ?_⟩
  rintro ⟨g, cap, cur, rfl, hg, hh, r⟩
  exact ⟨g, cap, cur, rfl, hg, (k g rfl (Array.getElem?_eq_some_iff.1 hh).1).trans hh, r⟩
theorem owns_base {A : World} {b b' e n : Nat} {v : Value} {xs : List Value} (h : A.ownsRow b e 1 v n xs) (hb : b' ≤ b) : A.ownsRow b' e 1 v n xs := by
  obtain ⟨hl, h2⟩ := h
  refine ⟨hl, h2.imp id ?_⟩
  rintro ⟨g, cap, cur, rfl, hg, r⟩
  exact ⟨g, cap, cur, rfl, by omega, r⟩
theorem owns_ne {A : World} {b b' e e' n m : Nat} {v u : Value} {xs ys : List Value} (h : A.ownsRow b e 1 v n xs) (k : A.ownsRow b' e' 1 u m ys) (he : e ≠ e') : ∀ g, v.ownBlock = some g → u.ownBlock ≠ some g := fun g h1 h2 => by
  obtain ⟨_, h3⟩ := h
  obtain ⟨_, h4⟩ := k
  rcases h3 with ⟨rfl, _⟩ | ⟨g1, cap, cur, rfl, _, hh, _⟩
  · cases h1
  · cases h1
    rcases h4 with ⟨rfl, _⟩ | ⟨g2, cap2, cur2, rfl, _, hh2, _⟩
    · cases h2
    · cases h2
      rw [hh] at hh2
      simp only [Option.some.injEq, Obj.cells.injEq] at hh2
      exact he hh2.2.1
/-- Lists that are the call's own, no two of them in one place. -/
structure KidsO (base : Nat) (w : World) (S : List Value) (xss : List (List Int)) : Prop where
  row : ∀ j, j < xss.length → ∃ u, S[j]? = some u ∧ w.ownsRow base 3 1 u (xss.getD j []).length ((xss.getD j []).map (Value.int .i64))
  apart : ∀ (i j : Nat) (v v' : Value), i ≠ j → i < xss.length → j < xss.length → S[i]? = some v → S[j]? = some v' → ∀ g, v.ownBlock = some g → v'.ownBlock ≠ some g
def CopP (w w' : World) (v : Value) (xss : List (List Int)) : Prop := ∃ S, w'.ownsRow w.heap.size 25 1 v xss.length S ∧ KidsO w.heap.size w' S xss ∧ Keeps Non w w'
set_option maxRecDepth 100000 in
set_option maxHeartbeats 4000000 in
theorem copied_own (a : Option Addr) (n cap : Nat) (xss : List (List Int)) (w : World) (h : Rows w a n xss) (hn : n ≤ 100000) (hl : ∀ i, (xss.getD i []).length ≤ 1000000) :
    Calls Try.prog 38 #[.slice a n cap] w fun e w' => ∃ v, e = .returned v ∧ CopP w w' v xss := by
  obtain ⟨i0, hi, hz0, hz1, hz2⟩ := info25_parts
  have HX := hide h
  have HLn := hide hl
  clear h hl
  go_enter Try.func38, Try.ntmps38
  go_wp2_with fail
  obtain ⟨W, hW, hWk⟩ : ∃ W, w = W ∧ Keeps Non w W := ⟨w, rfl, Keeps.refl _ _⟩
  go_loopw [8, 3] (fun i v wr => ∃ (k : Nat) (S : List Value), k ≤ n ∧ i = .int .i64 k ∧ Hid (wr.ownsRow w.heap.size 25 1 v k S) ∧ Hid (KidsO w.heap.size wr S (xss.take k)) ∧ Hid (Keeps Non w wr)) (fun i _ _ => n - (intOf i).toNat)
  case atStart => exact ⟨0, [], Nat.zero_le _, rfl, World.ownsRow_nil _ _ _ _, ⟨(fun j hj => by simp at hj), (fun i j v v' _ hi => by simp at hi)⟩, Keeps.refl _ _⟩
  case round =>
    clear hW hWk
    obtain ⟨k, S, hk, rfl, HO, HKd, HK⟩ := hrel
    have hxl : xss.length = n := HX.out.len
    by_cases hlt : k < n
    · obtain ⟨b1, o1, rfl, hb1, hc1⟩ := (HX.out.non HK.out).at (by omega)
      obtain ⟨ai, ci, c1, hI⟩ := hc1 k hlt
      have hlk := HLn.out k
      have htl : (xss.take k).length = k := by rw [List.length_take]; omega
      obtain ⟨x, hx⟩ : ∃ x, xss.getD k [] = x := ⟨_, rfl⟩
      rw [hx] at c1 hI hlk
      have HC := hide (clone_own ai x.length ci x wr hI hlk)
      have HXx := hide hx
      obtain ⟨q, hq⟩ : ∃ q, x.length = q := ⟨_, rfl⟩
      have HQ := hide hq
      rw [hq] at c1 HC hlk
      have z0 : (0 : Int) ≤ (k : Int) := by omega
      have z1 : (k : Int) < (n : Int) := by omega
      have HTl := hide htl
      clear hc1 hx hI hq hxl htl
      go_wp2_with fail
      refine HC.out.mono ?_
      rintro e w4 ⟨v4, rfl, ho4, hk4⟩
      obtain ⟨a4, c4, rfl⟩ := owns_slice ho4
      have HO4 := hide ho4
      have HK4 := hide hk4
      clear ho4 hk4
      go_wp2_with (at_builtin; refine wpList_append_own_at _ rfl _ _ 23 rfl w.heap.size 25 i0 (.slice none 0 0) 1 24 Try.underlying23 hi hz0 hz1 hz2 rfl (by decide) _ k S rfl (owns_keeps HO.out (HK4.out.alloc _) (fun _ _ x => x)) ⟨w4.heap.size, 0, none⟩ 1 1 [.slice a4 q c4] rfl ?qc1 ?qc2 ?qc3 ?qc4 ?qc5 ?qc6 ?_)
      case qc1 => rfl
      case qc2 => exact cell_one_new _ _ _
      case qc3 => intro u hu; simp at hu; subst hu; rfl
      case qc4 => unfold maxLen; omega
      case qc5 => omega
      case qc6 => simp; have := HK.out.size; have := HK4.out.size; omega
      intro v' w5 hown hgrow hnil hat
      have HO5 := hide hown
      have hSl : S.length = k := by simpa using HO.out.1
      have hsz5 := hgrow.size
      rw [World.size_alloc] at hsz5
      have hOa := owns_keeps HO.out (HK4.out.alloc (.cells #[.slice a4 q c4] 25)) (fun _ _ x => x)
      have old : ∀ (u : Value) (m : Nat) (ys : List Value), (w4.alloc (.cells #[.slice a4 q c4] 25)).ownsRow w.heap.size 3 1 u m ys → w5.ownsRow w.heap.size 3 1 u m ys := fun u m ys hu => owns_of_eq' hu (fun g hg hgl => hgrow.block g hgl (fun e => owns_ne hu hOa (by decide) g hg e.symm))
      have hkid : w5.ownsRow w.heap.size 3 1 (.slice a4 q c4) q (x.map (Value.int .i64)) := old _ _ _ (owns_base (HO4.out.alloc _) HK.out.size)
      have HKd5 : Hid (KidsO w.heap.size w5 (S ++ [.slice a4 q c4]) (xss.take (k + 1))) := by
        have hl2 : (xss.take (k + 1)).length ≤ k + 1 := by rw [List.length_take]; omega
        refine ⟨fun j hj => ?_, fun i j v9 v9' hij hi9 hj9 hv hv' g hg hg2 => ?_⟩
        · by_cases hjk : j < k
          · obtain ⟨u, h1, h2⟩ := HKd.out.row j (by rw [HTl.out]; exact hjk)
            rw [getD_take hjk] at h2
            rw [getD_take (show j < k + 1 by omega)]
            exact ⟨u, by rw [List.getElem?_append_left (by omega)]; exact h1, old _ _ _ (owns_keeps h2 (HK4.out.alloc _) (fun _ _ x => x))⟩
          · obtain rfl : j = k := by omega
            have hxj : (xss.take (j + 1)).getD j [] = x := by rw [getD_take (show j < j + 1 by omega), HXx.out]
            rw [hxj, HQ.out]
            exact ⟨_, by rw [List.getElem?_append_right (by omega), hSl]; simp, hkid⟩
        · have fresh : ∀ b, (Value.slice a4 q c4).ownBlock = some b → wr.heap.size ≤ b := fun b hb => (owns_lt HO4.out b hb).1
          have past : ∀ (j : Nat) (u : Value), j < k → S[j]? = some u → ∀ b, u.ownBlock = some b → b < wr.heap.size := fun j u hj hu b hb => by
            obtain ⟨u2, h1, h2⟩ := HKd.out.row j (by rw [HTl.out]; exact hj)
            rw [hu] at h1
            cases h1
            exact (owns_lt h2 b hb).2
          by_cases hik : i < k
          · rw [List.getElem?_append_left (by omega)] at hv
            by_cases hjk : j < k
            · rw [List.getElem?_append_left (by omega)] at hv'
              exact HKd.out.apart i j v9 v9' hij (by rw [HTl.out]; exact hik) (by rw [HTl.out]; exact hjk) hv hv' g hg hg2
            · obtain rfl : j = k := by omega
              rw [List.getElem?_append_right (by omega), hSl] at hv'
              simp at hv'
              subst hv'
              have := past i v9 hik hv g hg
              have := fresh g hg2
              omega
          · obtain rfl : i = k := by omega
            rw [List.getElem?_append_right (by omega), hSl] at hv
            simp at hv
            subst hv
            have hjk : j < i := by omega
            rw [List.getElem?_append_left (by omega)] at hv'
            have := past j v9' hjk hv' g hg2
            have := fresh g hg
            omega
      have HKn : Hid (Keeps Non w w5) := keeps_grown ((HK.out.then HK4.out).alloc _) hgrow (fun g hg => .inr (own_ge HO.out g hg))
      clear hown hgrow hnil hat old hkid hOa
      go_wp2_with fail
      go_roundw
      case rel => exact ⟨k + 1, _, by omega, by go_num, HO5.out, HKd5.out, HKn.out⟩
      case measure => simp [intOf]; omega
    · obtain rfl : n = k := by omega
      have hKd := HKd.out
      rw [List.take_of_length_le (by omega)] at hKd
      obtain ⟨a6, c6, rfl⟩ := owns_slice HO.out
      have HE : Hid (CopP w wr (.slice a6 n c6) xss) := ⟨S, by rw [hxl]; exact HO.out, hKd, HK.out⟩
      clear hKd hxl
      go_wp2_with fail
      go_ret
      exact ⟨_, rfl, HE.out⟩
end Go.Proofs.Ythpdflpkkiabhaa
