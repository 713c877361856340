/-
  Walks over layer 6: Join. No condition.
-/
import Derived.Test.YtkcbahfmdokalaaL
namespace Go.Proofs.Ytkcbahfmdokalaa
open Go.RowKit Go.Maps
attribute [local go_sem] onto_cell onto_frozen
set_option linter.unusedVariables false
/-- Pointers that lead to roots, which L tells. -/
structure Forest (n : Nat) (to L : List Int) (d : Nat → Nat) : Prop where
  len : to.length = n
  lab : L.length = n
  bd : ∀ i, i < n → 0 ≤ to.getD i 0 ∧ to.getD i 0 < n
  lbd : ∀ i, i < n → 0 ≤ L.getD i 0 ∧ L.getD i 0 < n
  top : ∀ i, i < n → to.getD (L.getD i 0).toNat 0 = L.getD i 0
  same : ∀ i, i < n → L.getD (to.getD i 0).toNat 0 = L.getD i 0
  root : ∀ i, i < n → to.getD i 0 = i → L.getD i 0 = i
  rank : ∀ i, i < n → to.getD i 0 ≠ i → d (to.getD i 0).toNat < d i
theorem getD_setI {xs : List Int} {x : Int} {i j : Nat} (h : i < xs.length) : (xs.set i x).getD j 0 = if i = j then x else xs.getD j 0 := by
  rw [List.getD_eq_getElem?_getD, List.getElem?_set, List.getD_eq_getElem?_getD]
  by_cases hij : i = j
  · subst hij
    rw [if_pos rfl, if_pos h, if_pos rfl]
    rfl
  · rw [if_neg hij, if_neg hij]
theorem forest_start (n : Nat) : Forest n (upTo n) (upTo n) (fun _ => 0) := by
  have hl : (upTo n).length = n := by simp [upTo]
  refine ⟨hl, hl, fun i hi => ?_, fun i hi => ?_, fun i hi => ?_, fun i hi => ?_, fun i hi _ => upTo_at hi, fun i hi h => absurd (upTo_at hi) h⟩
  · rw [upTo_at hi]; omega
  · rw [upTo_at hi]; omega
  · rw [upTo_at hi, upTo_at (by omega)]; omega
  · rw [upTo_at hi, upTo_at (by omega)]; omega
/-- Two roots are tied. -/
theorem forest_tie {n : Nat} {to L : List Int} {d : Nat → Nat} (h : Forest n to L d) {a b : Nat} (ha : a < n) (hb : b < n) : ∃ d', Forest n (to.set (L.getD a 0).toNat (L.getD b 0)) (setAll L (L.getD a 0) (L.getD b 0)) d' := by
  obtain ⟨x, hx⟩ : ∃ x, L.getD a 0 = x := ⟨_, rfl⟩
  obtain ⟨y, hy⟩ : ∃ y, L.getD b 0 = y := ⟨_, rfl⟩
  have bx := h.lbd a ha
  have bby := h.lbd b hb
  have tx := h.top a ha
  have ty := h.top b hb
  rw [hx] at bx tx
  rw [hy] at bby ty
  rw [hx, hy]
  obtain ⟨u, rfl⟩ : ∃ u : Nat, x = u := ⟨x.toNat, by omega⟩
  obtain ⟨v, rfl⟩ : ∃ v : Nat, y = v := ⟨y.toNat, by omega⟩
  rw [Int.toNat_natCast] at tx ty ⊢
  have hun : u < n := by omega
  have hvn : v < n := by omega
  have lu : L.getD u 0 = u := h.root u hun tx
  have lv : L.getD v 0 = v := h.root v hvn ty
  have hto : ∀ j, (to.set u (v : Int)).getD j 0 = if u = j then (v : Int) else to.getD j 0 := fun j => getD_setI (by rw [h.len]; exact hun)
  have hL : ∀ j, j < n → (setAll L (u : Int) (v : Int)).getD j 0 = if L.getD j 0 = u then (v : Int) else L.getD j 0 := fun j hj => setAll_at (by rw [h.lab]; exact hj)
  by_cases huv : u = v
  · subst huv
    have e1 : to.set u (u : Int) = to := by
      apply List.ext_getElem?
      intro j
      rw [List.getElem?_set]
      by_cases hj : u = j
      · subst hj
        rw [if_pos rfl, if_pos (by rw [h.len]; exact hun), List.getElem?_eq_getElem (by rw [h.len]; exact hun), ← getD_num (by rw [h.len]; exact hun), tx]
      · rw [if_neg hj]
    have e2 : setAll L (u : Int) (u : Int) = L := by
      unfold setAll
      conv => rhs; rw [← List.map_id L]
      refine List.map_congr_left fun z _ => ?_
      by_cases hz : z = u
      · rw [if_pos hz, hz]; rfl
      · rw [if_neg hz]; rfl
    rw [e1, e2]
    exact ⟨d, h⟩
  · refine ⟨fun i => d i + if L.getD i 0 = u then d v + 1 else 0, by simp [h.len], by simp [setAll, h.lab], fun i hi => ?_, fun i hi => ?_, fun i hi => ?_, fun i hi => ?_, fun i hi he => ?_, fun i hi he => ?_⟩
    · rw [hto]
      split
      · omega
      · exact h.bd i hi
    · rw [hL i hi]
      split
      · omega
      · exact h.lbd i hi
    · have hb2 := h.lbd i hi
      rw [hL i hi]
      split
      · rw [Int.toNat_natCast, hto, if_neg huv, ty]
      · rename_i hne
        rw [hto, if_neg (by omega)]
        exact h.top i hi
    · have hb2 := h.bd i hi
      rw [hto, hL i hi]
      split
      · rename_i hi2
        subst hi2
        rw [Int.toNat_natCast, hL v hvn, lv, if_neg (by omega), lu, if_pos rfl]
      · rw [hL _ (by omega), h.same i hi]
    · rw [hto] at he
      rw [hL i hi]
      split at he
      · rename_i h2
        exact absurd (by omega) huv
      · have := h.root i hi he
        rw [this, if_neg (by omega)]
    · rw [hto] at he ⊢
      split at he
      · rename_i h2
        subst h2
        rw [if_pos rfl]
        simp only [Int.toNat_natCast]
        have e1 : (if L.getD v 0 = (u : Int) then d v + 1 else 0) = 0 := if_neg (by rw [lv]; omega)
        have e2 : (if L.getD u 0 = (u : Int) then d v + 1 else 0) = d v + 1 := if_pos lu
        rw [e1, e2]
        omega
      · rename_i h2
        rw [if_neg h2]
        have h3 := h.rank i hi he
        have h4 := h.same i hi
        show _ + _ < _ + _
        rw [h4]
        omega
theorem ofNat_getD {xs : List Int} {i : Nat} (h : 0 ≤ xs.getD i 0) : xs.getD i 0 = ((xs.getD i 0).toNat : Int) := by omega
theorem int_row {xs : List Int} {i : Nat} (h : i < xs.length) : (xs.map (Value.int .i64))[i]? = some (.int .i64 (xs.getD i 0)) := by
  rw [List.getElem?_map, List.getElem?_eq_getElem h, getD_num h]
  rfl
theorem root_l (n : Nat) (to L : List Int) (d : Nat → Nat) (X T : Nat) (b : Nat) (w : World) (hX : Blk w X [.slice (some ⟨T, 0, none⟩) n n] 22) (hT : Blk w T (to.map (Value.int .i64)) 3) (hF : Forest n to L d) (hb : b < n) :
    Calls Try.prog 58 #[.int .i64 b, .pointer (some ⟨X, 0, none⟩)] w fun e w' => e = .returned (.int .i64 (L.getD b 0)) ∧ w = w' := by
  have hc := hX.cell 0
  simp only [List.getElem?_cons_zero] at hc
  have HT := hide hT
  have HF := hide hF
  obtain ⟨r, hr⟩ : ∃ r, L.getD b 0 = r := ⟨_, rfl⟩
  rw [hr]
  have HR := hide hr
  clear hX hT hF hr
  go_enter Try.func58, Try.ntmps58
  go_wp2_with fail
  go_loop [0] (fun t => ∃ c : Nat, c < n ∧ t = .int .i64 c ∧ Hid (L.getD c 0 = r)) (fun t => d (intOf t).toNat)
  case atStart => exact ⟨b, hb, rfl, HR.out⟩
  case round =>
    obtain ⟨c, hcn, rfl, HL⟩ := hrel
    have ct : w.cell? ⟨T, c, none⟩ = some (.int .i64 (to.getD c 0)) := by rw [HT.out.cell]; exact int_row (by rw [HF.out.len]; exact hcn)
    have hbd := HF.out.bd c hcn
    have hsame := HF.out.same c hcn
    have hroot := HF.out.root c hcn
    have hrank := HF.out.rank c hcn
    have lt := HT.out.lt
    obtain ⟨z, hz⟩ : ∃ z, to.getD c 0 = z := ⟨_, rfl⟩
    rw [hz] at ct hbd hsame hroot hrank
    obtain ⟨v, rfl⟩ : ∃ v : Nat, z = v := ⟨z.toNat, by omega⟩
    have c0 : (0 : Int) ≤ (c : Int) := by omega
    have c1 : (c : Int) < (n : Int) := by omega
    by_cases hvc : v = c
    · subst hvc
      have HE := hide (hroot rfl)
      clear hbd hsame hroot hrank hz
      go_wp2_with fail
      go_ret
      refine ⟨?_, rfl⟩
      rw [← HL.out, HE.out]
      rfl
    · have hne : ((v : Int) != (c : Int)) = true := by simp; omega
      have HE := hide hsame
      have HK := hide (hrank (by omega))
      have hvn : v < n := by omega
      clear hbd hsame hroot hrank hz hvc
      go_wp2_with fail
      go_round
      case rel => exact ⟨v, hvn, rfl, by
        have := HE.out
        rw [Int.toNat_natCast] at this
        show _ = _
        rw [this]
        exact HL.out⟩
      case measure =>
        have := HK.out
        simpa [intOf] using this
end Go.Proofs.Ytkcbahfmdokalaa
