/-
  Layer 7, plain: what ReachMusts says. No condition.
-/
import Derived.Test.YthpdflpkkiabhaaPm
import Derived.Test.YthpdflpkkiabhaaMu
namespace Go.Proofs.Ythpdflpkkiabhaa
set_option linter.unusedVariables false
theorem mustRow_at (St : List Int) (k : Int) (o : List (List Int)) (n : Nat) (ho : o.length = n) (p : Nat) (hp : p < n) (l : List Int) : l.Nodup → (∀ x ∈ l, 0 ≤ x ∧ x < (n : Int)) → (mustRow St k o l).getD p [] = if (p : Int) ∈ l ∧ (p : Int) ∉ St then o.getD p [] ++ [k] else o.getD p [] := by
  induction l using snoc_ind with
  | h0 => intro _ _; rw [if_neg (by simp)]; rfl
  | h1 l x ih =>
    intro hn hl
    rw [List.nodup_append] at hn
    have hx := hl x (by simp)
    have ih2 := ih hn.1 (fun y hy => hl y (by simp [hy]))
    have hxl : x ∉ l := fun h => hn.2.2 x h x (by simp) rfl
    rw [mustRow_snoc, stepM]
    by_cases hxs : x ∈ St
    · rw [if_pos hxs, ih2]
      by_cases hpx : (p : Int) = x
      · rw [if_neg (fun h => h.2 (by rw [hpx]; exact hxs)), if_neg (fun h => h.2 (by rw [hpx]; exact hxs))]
      · by_cases hpl : (p : Int) ∈ l ∧ (p : Int) ∉ St
        · rw [if_pos hpl, if_pos ⟨List.mem_append_left _ hpl.1, hpl.2⟩]
        · rw [if_neg hpl, if_neg (fun h => hpl ⟨by
            rcases List.mem_append.1 h.1 with h | h
            · exact h
            · exact absurd (List.mem_singleton.1 h) hpx, h.2⟩)]
    · rw [if_neg hxs, getD_set (by rw [mustRow_length, ho]; omega)]
      by_cases hpx : x.toNat = p
      · have hpx2 : (p : Int) = x := by omega
        rw [if_pos hpx, hpx, ih2, if_neg (fun h => hxl (by rw [← hpx2]; exact h.1)), if_pos ⟨by rw [hpx2]; simp, by rw [hpx2]; exact hxs⟩]
      · rw [if_neg hpx, ih2]
        have hpx2 : ¬ (p : Int) = x := by omega
        by_cases hpl : (p : Int) ∈ l ∧ (p : Int) ∉ St
        · rw [if_pos hpl, if_pos ⟨List.mem_append_left _ hpl.1, hpl.2⟩]
        · rw [if_neg hpl, if_neg (fun h => hpl ⟨by
            rcases List.mem_append.1 h.1 with h | h
            · exact h
            · exact absurd (List.mem_singleton.1 h) hpx2, h.2⟩)]
theorem mustTo_at {next : List (List Int)} {s : Int} (hc : checkB next = true) (hs : 0 ≤ s ∧ s < (next.length : Int)) (p : Nat) (hp : p < next.length) : ∀ k, (mustTo next next.length s k).getD p [] = ((List.range k).filter fun (j : Nat) => decide ((j : Int) ∈ fromL next next.length s ∧ (p : Int) ∈ fromL next next.length s ∧ (p : Int) ∉ (foundL (succL next) j next.length [s]).map Prod.fst)).map fun (j : Nat) => (j : Int)
  | 0 => by
    rw [mustTo, List.getD_eq_getElem?_getD, List.getElem?_replicate]
    simp [hp]
  | k + 1 => by
    have ih := mustTo_at hc hs p hp k
    rw [List.range_succ, List.filter_append, List.map_append, ← ih, mustTo]
    have hn := fromL_nodup hc hs
    have hm := fromL_mem hc hs
    by_cases hk : (k : Int) ∈ fromL next next.length s
    · rw [if_pos hk, mustRow_at _ _ _ next.length (mustTo_length _ _ _ _) p hp _ hn hm]
      by_cases hcnd : (p : Int) ∈ fromL next next.length s ∧ (p : Int) ∉ (foundL (succL next) k next.length [s]).map Prod.fst
      · rw [if_pos hcnd, List.filter_cons_of_pos (by simpa using ⟨hk, hcnd.1, by simpa using hcnd.2⟩)]
        rfl
      · rw [if_neg hcnd, List.filter_cons_of_neg (by
          rw [decide_eq_true_iff]
          exact fun h => hcnd h.2)]
        simp
    · rw [if_neg hk, List.filter_cons_of_neg (by rw [decide_eq_true_iff]; exact fun h => hk h.1)]
      simp
theorem musts_mem {next : List (List Int)} {s : Int} (hc : checkB next = true) (hs : 0 ≤ s ∧ s < (next.length : Int)) (p : Nat) (hp : p < next.length) (x : Int) :
    x ∈ (mustsL next next.length s).getD p [] ↔ (0 ≤ x ∧ x < (next.length : Int)) ∧ x ∈ fromL next next.length s ∧ (p : Int) ∈ fromL next next.length s ∧ Dom (succL next) s x p := by
  have hfm : ∀ j : Nat, (p : Int) ∈ (foundL (succL next) j next.length [s]).map Prod.fst ↔ Av (succL next) j s p := fun j => by
    rw [found_mem (checkB_succ hc) (fun y hy => by rw [List.mem_singleton.1 hy]; exact hs)]
    constructor
    · rintro ⟨a, ha, h⟩
      rw [List.mem_singleton.1 ha] at h
      exact h
    · intro h
      exact ⟨s, by simp, h⟩
  unfold mustsL
  rw [mustTo_at hc hs p hp, List.mem_map]
  constructor
  · rintro ⟨j, hj, rfl⟩
    rw [List.mem_filter, List.mem_range, decide_eq_true_iff] at hj
    exact ⟨by omega, hj.2.1, hj.2.2.1, fun h => hj.2.2.2 ((hfm j).2 h)⟩
  · rintro ⟨h1, h2, h3, h4⟩
    refine ⟨x.toNat, ?_, by omega⟩
    have e : ((x.toNat : Nat) : Int) = x := by omega
    rw [List.mem_filter, List.mem_range, decide_eq_true_iff, e]
    refine ⟨by omega, h2, h3, fun h => h4 ?_⟩
    have := (hfm x.toNat).1
    rw [e] at this
    exact this h
/-- Numbers that rise. -/
theorem musts_rise {next : List (List Int)} {s : Int} (hc : checkB next = true) (hs : 0 ≤ s ∧ s < (next.length : Int)) (p : Nat) (hp : p < next.length) : ((mustsL next next.length s).getD p []).Pairwise (· < ·) := by
  unfold mustsL
  rw [mustTo_at hc hs p hp, List.pairwise_map]
  refine List.Pairwise.imp (R := fun a b : Nat => a < b) (fun h => by omega) ?_
  exact (List.pairwise_lt_range).filter _
structure MustsP (next : List (List Int)) (n : Nat) (s : Int) (M : List (List Int)) (W : List Int) : Prop where
  non : ∀ p : Nat, p < n → W.getD p 0 < 0 → M.getD p [] = []
  rise : ∀ p : Nat, p < n → (M.getD p []).Pairwise (· < ·)
  self : ∀ p : Nat, p < n → 0 ≤ W.getD p 0 → (p : Int) ∈ M.getD p [] ∧ s ∈ M.getD p []
  pt : ∀ p : Nat, p < n → ∀ x ∈ M.getD p [], (0 ≤ x ∧ x < (n : Int)) ∧ 0 ≤ W.getD x.toNat 0 ∧ W.getD x.toNat 0 ≤ W.getD p 0
  line : ∀ p : Nat, p < n → ∀ x ∈ M.getD p [], ∀ y ∈ M.getD p [], y ∈ M.getD x.toNat [] ∨ x ∈ M.getD y.toNat []
  trans : ∀ p : Nat, p < n → ∀ x ∈ M.getD p [], ∀ y ∈ M.getD x.toNat [], y ∈ M.getD p []
  cut : ∀ p q : Nat, p < n → q < n → p ≠ q → 0 ≤ W.getD p 0 → ((q : Int) ∈ M.getD p [] ↔ (waysL (next.set q []) n s).getD p 0 < 0)
theorem musts_plain {next : List (List Int)} {s : Int} (hc : checkB next = true) (hs : 0 ≤ s ∧ s < (next.length : Int)) : MustsP next next.length s (mustsL next next.length s) (waysL next next.length s) := by
  have hF := finds hc hs
  obtain ⟨hok, hd⟩ := found_dep (checkB_succ hc) hs
  have hmm := musts_mem hc hs
  obtain ⟨L, hL⟩ : ∃ L, foundL (succL next) (-1) next.length [s] = L := ⟨_, rfl⟩
  have hA : fromL next next.length s = L.map Prod.fst := by unfold fromL; rw [hL]
  have hW : ∀ y : Int, (waysL next next.length s).getD y.toNat 0 = dW next.length L y := fun y => by unfold waysL dW; rw [hL]
  have hWn : ∀ p : Nat, (waysL next next.length s).getD p 0 = dW next.length L p := fun p => by have := hW p; rwa [Int.toNat_natCast] at this
  rw [hL] at hok hd
  have hpA : ∀ p : Nat, p < next.length → (0 ≤ (waysL next next.length s).getD p 0 ↔ (p : Int) ∈ L.map Prod.fst) := fun p hp => by have := (hF.far p hp).1; rwa [hA] at this
  have hfar : ∀ (p : Nat) (x : Int), (p : Int) ∈ L.map Prod.fst → Dom (succL next) s x p → x ∈ L.map Prod.fst ∧ dW next.length L x ≤ dW next.length L p := fun p x hpm hx => by
    obtain ⟨j, b, hj, hb⟩ := getP hpm
    have := dom_far hd j b hj x (by rw [hb]; exact hx)
    rw [hb] at this
    exact this
  have hmem : ∀ x ∈ L.map Prod.fst, 0 ≤ x ∧ x < (next.length : Int) := fun x hx => by
    obtain ⟨b, hb, rfl⟩ := List.mem_map.1 hx
    exact hok.pt b hb
  have hmm2 : ∀ (p : Nat), p < next.length → ∀ x, x ∈ (mustsL next next.length s).getD p [] ↔ (p : Int) ∈ L.map Prod.fst ∧ Dom (succL next) s x p := fun p hp x => by
    rw [hmm p hp x, hA]
    constructor
    · rintro ⟨_, _, h3, h4⟩; exact ⟨h3, h4⟩
    · rintro ⟨h3, h4⟩
      have := (hfar p x h3 h4).1
      exact ⟨hmem x this, this, h3, h4⟩
  have hnat : ∀ x ∈ L.map Prod.fst, ((x.toNat : Nat) : Int) = x ∧ x.toNat < next.length := fun x hx => by have := hmem x hx; omega
  refine ⟨?_, fun p hp => musts_rise hc hs p hp, ?_, ?_, ?_, ?_, ?_⟩
  · intro p hp h0
    apply List.eq_nil_iff_forall_not_mem.2
    intro x hx
    have := (hpA p hp).2 ((hmm2 p hp x).1 hx).1
    omega
  · intro p hp h0
    have hpm := (hpA p hp).1 h0
    exact ⟨(hmm2 p hp p).2 ⟨hpm, dom_self _ _ _⟩, (hmm2 p hp s).2 ⟨hpm, dom_start _ _ _⟩⟩
  · intro p hp x hx
    obtain ⟨h1, h2⟩ := (hmm2 p hp x).1 hx
    obtain ⟨h3, h4⟩ := hfar p x h1 h2
    obtain ⟨h5, h6⟩ := hnat x h3
    refine ⟨hmem x h3, ?_, by rw [hW, hWn]; exact h4⟩
    rw [hpA x.toNat h6, h5]
    exact h3
  · intro p hp x hx y hy
    obtain ⟨h1, h2⟩ := (hmm2 p hp x).1 hx
    obtain ⟨_, h3⟩ := (hmm2 p hp y).1 hy
    have hxA := (hfar p x h1 h2).1
    have hyA := (hfar p y h1 h3).1
    obtain ⟨x5, x6⟩ := hnat x hxA
    obtain ⟨y5, y6⟩ := hnat y hyA
    obtain ⟨j, b, hj, hb⟩ := getP h1
    rcases dom_line hd j b hj x y (by rw [hb]; exact h2) (by rw [hb]; exact h3) with h | h
    · exact .inl ((hmm2 x.toNat x6 y).2 (by rw [x5]; exact ⟨hxA, h⟩))
    · exact .inr ((hmm2 y.toNat y6 x).2 (by rw [y5]; exact ⟨hyA, h⟩))
  · intro p hp x hx y hy
    obtain ⟨h1, h2⟩ := (hmm2 p hp x).1 hx
    have hxA := (hfar p x h1 h2).1
    obtain ⟨x5, x6⟩ := hnat x hxA
    have h3 := ((hmm2 x.toNat x6 y).1 hy).2
    rw [x5] at h3
    exact (hmm2 p hp y).2 ⟨h1, dom_trans h2 h3⟩
  · intro p q hp hq hpq h0
    have hpm := (hpA p hp).1 h0
    -- the edges without those of q
    have hlen : (next.set q []).length = next.length := by simp
    have hsc : ∀ a : Int, 0 ≤ a → a ≠ q → succL (next.set q []) a = succL next a := fun a ha haq => by
      unfold succL
      rw [getD_set hq, if_neg (by omega)]
    have hsq : succL (next.set q []) (q : Int) = [] := by
      unfold succL
      rw [getD_set hq, if_pos (by omega)]
    have hsub : ∀ a, 0 ≤ a → ∀ b ∈ succL (next.set q []) a, b ∈ succL next a := fun a ha b hb => by
      by_cases haq : a = q
      · subst haq; rw [hsq] at hb; simp at hb
      · rw [hsc a ha haq] at hb; exact hb
    have hs2 : ∀ a, 0 ≤ a ∧ a < (next.length : Int) → ∀ b ∈ succL (next.set q []) a, 0 ≤ b ∧ b < (next.length : Int) := fun a ha b hb => checkB_succ hc a ha b (hsub a ha.1 b hb)
    obtain ⟨hok2, hd2⟩ := found_dep hs2 hs
    have hfm := found_mem (o := -1) hs2 (l := [s]) (fun y hy => by rw [List.mem_singleton.1 hy]; exact hs) p
    obtain ⟨L2, hL2⟩ : ∃ L2, foundL (succL (next.set q [])) (-1) next.length [s] = L2 := ⟨_, rfl⟩
    rw [hL2] at hok2 hd2 hfm
    have hW2 : (waysL (next.set q []) next.length s).getD p 0 = dW next.length L2 p := by
      unfold waysL dW
      rw [hL2, Int.toNat_natCast]
    rw [hW2, hmm2 p hp q]
    have hneg : dW next.length L2 p < 0 ↔ (p : Int) ∉ L2.map Prod.fst := by
      constructor
      · intro h hin
        obtain ⟨j, b, hj, hb⟩ := getP hin
        have := hd2.nn b (List.mem_of_getElem? hj)
        rw [hb] at this
        omega
      · intro h
        have := hd2.out p (by omega) (by omega) h
        omega
    rw [hneg, hfm]
    -- ways that avoid q, and ways without its edges
    have rng : ∀ z, Av (succL next) q s z → 0 ≤ z ∧ z < (next.length : Int) := fun z hz => by
      induction hz with
      | refl _ => exact hs
      | step _ h _ ih => exact checkB_succ hc _ ih _ h
    have rng2 : ∀ z, Av (succL (next.set q [])) (-1) s z → 0 ≤ z ∧ z < (next.length : Int) := fun z hz => by
      induction hz with
      | refl _ => exact hs
      | step _ h _ ih => exact hs2 _ ih _ h
    have up : ∀ z, Av (succL next) q s z → Av (succL (next.set q [])) (-1) s z := fun z hz => by
      induction hz with
      | refl _ => exact .refl (by omega)
      | @step a b h1 h2 h3 ih =>
        have ra := rng a h1
        have rb := checkB_succ hc a ra b h2
        exact .step ih (by rw [hsc a ra.1 (av_of h1)]; exact h2) (by omega)
    have dn : ∀ z, Av (succL (next.set q [])) (-1) s z → z ≠ (q : Int) → Av (succL next) q s z := fun z hz => by
      induction hz with
      | refl _ => exact fun h => .refl h
      | @step a b h1 h2 h3 ih =>
        intro hb
        have ra := rng2 a h1
        by_cases haq : a = (q : Int)
        · subst haq; rw [hsq] at h2; simp at h2
        · exact .step (ih haq) (by rw [← hsc a ra.1 haq]; exact h2) hb
    have hpq2 : (p : Int) ≠ (q : Int) := by omega
    constructor
    · rintro ⟨_, h⟩ ⟨a, ha, hav⟩
      rw [List.mem_singleton.1 ha] at hav
      exact h (dn p hav hpq2)
    · intro h
      exact ⟨hpm, fun hav => h ⟨s, by simp, up p hav⟩⟩
end Go.Proofs.Ythpdflpkkiabhaa
