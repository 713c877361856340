/-
  Layer 7, plain: what ReachRings says. No condition.
-/
import Derived.Test.YthpdflpkkiabhaaPb
namespace Go.Proofs.Ythpdflpkkiabhaa
set_option linter.unusedVariables false
theorem ringIn_at (T : List Int) (p : Int) (n : Nat) (R : List Int) (hR : R.length = n) (q : Nat) (hq : q < n) (L : List (Int × Int)) : (∀ x ∈ L, 0 ≤ x.1 ∧ x.1 < (n : Int)) → (ringIn T p R L).getD q 0 = if (q : Int) ∈ L.map Prod.fst ∧ (q : Int) ∈ T then p + 1 else R.getD q 0 := by
  induction L using snoc_ind with
  | h0 => intro _; rw [if_neg (by simp)]; rfl
  | h1 L x ih =>
    intro hl
    have hx := hl x (by simp)
    have ih2 := ih (fun y hy => hl y (by simp [hy]))
    rw [ringIn_snoc]
    by_cases hxq : x.1.toNat = q
    · have hxq2 : (q : Int) = x.1 := by omega
      by_cases hxT : x.1 ∈ T
      · rw [if_pos hxT, getD_set (by rw [ringIn_length, hR]; omega), if_pos hxq, if_pos ⟨by rw [hxq2]; simp, by rw [hxq2]; exact hxT⟩]
      · rw [if_neg hxT, ih2, if_neg (fun h => hxT (by rw [← hxq2]; exact h.2)), if_neg (fun h => hxT (by rw [← hxq2]; exact h.2))]
    · have hxq2 : ¬ (q : Int) = x.1 := by omega
      have hiff : (q : Int) ∈ (L ++ [x]).map Prod.fst ↔ (q : Int) ∈ L.map Prod.fst := by
        rw [List.map_append, List.mem_append]
        simp [hxq2]
      have e : (if x.1 ∈ T then (ringIn T p R L).set x.1.toNat (p + 1) else ringIn T p R L).getD q 0 = (ringIn T p R L).getD q 0 := by
        split
        · rw [getD_set (by rw [ringIn_length, hR]; omega), if_neg hxq]
        · rfl
      rw [e, ih2]
      by_cases hm : (q : Int) ∈ L.map Prod.fst ∧ (q : Int) ∈ T
      · rw [if_pos hm, if_pos ⟨hiff.2 hm.1, hm.2⟩]
      · rw [if_neg hm, if_neg (fun h => hm ⟨hiff.1 h.1, h.2⟩)]
/-- Each reaches the other one. -/
def mutB (next : List (List Int)) (n j q : Nat) : Bool := decide ((q : Int) ∈ (foundL (succL (backL next n)) (-1) n [(j : Int)]).map Prod.fst ∧ (q : Int) ∈ (foundL (succL next) (-1) n [(j : Int)]).map Prod.fst)
def ringV (next : List (List Int)) (n k q : Nat) : Int := match (List.range k).find? (fun j => mutB next n j q) with
  | some j => (j : Int) + 1
  | none => 0
theorem back_av {next : List (List Int)} (hc : checkB next = true) {a b : Int} (ha : 0 ≤ a ∧ a < (next.length : Int)) (hb : 0 ≤ b ∧ b < (next.length : Int)) : Av (succL (backL next next.length)) (-1) a b ↔ Av (succL next) (-1) b a := by
  have hs1 := checkB_succ hc
  have hs2 := checkB_succ (back_check hc)
  rw [backL_length] at hs2
  have m : ∀ a b : Int, 0 ≤ a ∧ a < (next.length : Int) → 0 ≤ b ∧ b < (next.length : Int) → (b ∈ succL next a ↔ a ∈ succL (backL next next.length) b) := fun a b ha hb => by
    conv => rhs; unfold succL
    rw [backL_mem hc b.toNat (by omega), show ((b.toNat : Nat) : Int) = b by omega]
    exact ⟨fun h => ⟨ha, h⟩, fun h => h.2⟩
  constructor
  · intro h
    obtain ⟨k, hk⟩ := h.wk
    exact (hk.turn hs2 ha (fun a b ha hb => (m b a hb ha).2)).av hs1 hb
  · intro h
    obtain ⟨k, hk⟩ := h.wk
    exact (hk.turn hs1 hb (fun a b ha hb => (m a b ha hb).1)).av hs2 ha
def MutP (next : List (List Int)) (a b : Int) : Prop := Av (succL next) (-1) a b ∧ Av (succL next) (-1) b a
theorem MutP.symm {next : List (List Int)} {a b : Int} (h : MutP next a b) : MutP next b a := ⟨h.2, h.1⟩
theorem MutP.trans {next : List (List Int)} {a b c : Int} (h : MutP next a b) (k : MutP next b c) : MutP next a c := ⟨h.1.trans k.1, k.2.trans h.2⟩
theorem mutB_iff {next : List (List Int)} (hc : checkB next = true) {j q : Nat} (hj : j < next.length) (hq : q < next.length) : mutB next next.length j q = true ↔ MutP next j q := by
  have hs2 := checkB_succ (back_check hc)
  rw [backL_length] at hs2
  have h1 : ∀ x ∈ [(j : Int)], 0 ≤ x ∧ x < (next.length : Int) := fun x hx => by rw [List.mem_singleton.1 hx]; omega
  unfold mutB MutP
  rw [decide_eq_true_iff, found_mem (checkB_succ hc) h1, found_mem hs2 h1]
  simp only [List.mem_singleton, exists_eq_left]
  rw [back_av hc (by omega) (by omega)]
  exact and_comm
theorem ringV_some {next : List (List Int)} {n k q j : Nat} (h : (List.range k).find? (fun j => mutB next n j q) = some j) : ringV next n k q = (j : Int) + 1 := by unfold ringV; rw [h]
theorem ringV_none {next : List (List Int)} {n k q : Nat} (h : (List.range k).find? (fun j => mutB next n j q) = none) : ringV next n k q = 0 := by unfold ringV; rw [h]
theorem find_some {next : List (List Int)} {n k q j : Nat} (h : (List.range k).find? (fun j => mutB next n j q) = some j) : j < k ∧ mutB next n j q = true := ⟨List.mem_range.1 (List.mem_of_find?_eq_some h), by have := List.find?_some h; simpa using this⟩
theorem ringTo_at {next : List (List Int)} (hc : checkB next = true) : ∀ k, k ≤ next.length → ∀ q, q < next.length → (ringTo next next.length k).getD q 0 = ringV next next.length k q
  | 0, _, q, hq => by
    rw [ringTo, getD_num (by simpa using hq), List.getElem_replicate]
    rfl
  | k + 1, hk, q, hq => by
    have ih := ringTo_at hc k (by omega)
    have ihk := ih k (by omega)
    have hf : (List.range (k + 1)).find? (fun j => mutB next next.length j q) = ((List.range k).find? (fun j => mutB next next.length j q)).or ([k].find? (fun j => mutB next next.length j q)) := by rw [List.range_succ, List.find?_append]
    have h1 : ([k].find? (fun j => mutB next next.length j q)) = if mutB next next.length k q = true then some k else none := by
      rw [List.find?_cons]
      cases mutB next next.length k q <;> rfl
    rw [h1] at hf
    rw [ringTo]
    by_cases h0 : 0 < (ringTo next next.length k).getD k 0
    · rw [if_pos h0, ih q hq]
      cases hq2 : (List.range k).find? (fun j => mutB next next.length j q) with
      | some j =>
        rw [hq2] at hf
        rw [ringV_some hq2, ringV_some (j := j) (by rw [hf]; rfl)]
      | none =>
        rw [hq2] at hf
        have hk2 : mutB next next.length k q = false := by
          rw [← Bool.not_eq_true]
          intro hb
          rw [ihk] at h0
          cases hkk : (List.range k).find? (fun j => mutB next next.length j k) with
          | none => rw [ringV_none hkk] at h0; omega
          | some j =>
            obtain ⟨hj1, hj2⟩ := find_some hkk
            have m1 := (mutB_iff hc (by omega) (by omega)).1 hj2
            have m2 := (mutB_iff hc (by omega) hq).1 hb
            have m3 := (mutB_iff hc (j := j) (by omega) hq).2 (m1.trans m2)
            have := List.find?_eq_none.1 hq2 j (List.mem_range.2 hj1)
            exact this m3
        rw [hk2] at hf
        rw [ringV_none hq2, ringV_none (by rw [hf]; rfl)]
    · rw [if_neg h0]
      have hs2 := checkB_succ (back_check hc)
      rw [backL_length] at hs2
      have hl1 : ∀ x ∈ [(k : Int)], 0 ≤ x ∧ x < (next.length : Int) := fun x hx => by rw [List.mem_singleton.1 hx]; omega
      have hok := (found_rec (o := -1) hs2 hl1 (fun _ _ => True) trivial (fun _ _ _ _ _ _ => trivial)).1
      rw [ringIn_at _ _ _ _ (ringTo_length _ _ _) q hq _ (fun x hx => hok.pt x hx)]
      by_cases hb : mutB next next.length k q = true
      · rw [if_pos (by unfold mutB at hb; rw [decide_eq_true_iff] at hb; exact hb)]
        have hn : (List.range k).find? (fun j => mutB next next.length j q) = none := by
          rw [List.find?_eq_none]
          intro j hj hb2
          rw [List.mem_range] at hj
          have m1 := (mutB_iff hc (by omega) hq).1 hb2
          have m2 := (mutB_iff hc (by omega) hq).1 hb
          have m3 := (mutB_iff hc (j := j) (q := k) (by omega) (by omega)).2 (m1.trans m2.symm)
          rw [ihk] at h0
          cases hkk : (List.range k).find? (fun j => mutB next next.length j k) with
          | none => exact List.find?_eq_none.1 hkk j (List.mem_range.2 hj) m3
          | some i => rw [ringV_some hkk] at h0; omega
        rw [hn, if_pos hb] at hf
        rw [ringV_some (j := k) (by rw [hf]; rfl)]
      · rw [if_neg (by unfold mutB at hb; rw [decide_eq_true_iff] at hb; exact hb), ih q hq]
        rw [if_neg hb, Option.or_none] at hf
        unfold ringV
        rw [hf]
theorem ringV_eq {next : List (List Int)} (hc : checkB next = true) {p q : Nat} (hp : p < next.length) (hq : q < next.length) : ringV next next.length next.length p = ringV next next.length next.length q ↔ MutP next p q := by
  have self : ∀ p : Nat, p < next.length → MutP next p p := fun p _ => ⟨.refl (by omega), .refl (by omega)⟩
  have ex : ∀ p : Nat, p < next.length → ∃ j, (List.range next.length).find? (fun j => mutB next next.length j p) = some j := fun p hp => by
    cases h : (List.range next.length).find? (fun j => mutB next next.length j p) with
    | some j => exact ⟨j, rfl⟩
    | none => exact absurd ((mutB_iff hc hp hp).2 (self p hp)) (List.find?_eq_none.1 h p (List.mem_range.2 hp))
  constructor
  · intro h
    obtain ⟨i, hi⟩ := ex p hp
    obtain ⟨j, hj⟩ := ex q hq
    rw [ringV_some hi, ringV_some hj] at h
    have : i = j := by omega
    subst this
    obtain ⟨i1, i2⟩ := find_some hi
    obtain ⟨j1, j2⟩ := find_some hj
    exact ((mutB_iff hc i1 hp).1 i2).symm.trans ((mutB_iff hc i1 hq).1 j2)
  · intro h
    have e : (List.range next.length).find? (fun j => mutB next next.length j p) = (List.range next.length).find? (fun j => mutB next next.length j q) := by
      have : ∀ l : List Nat, (∀ j ∈ l, j < next.length) → l.find? (fun j => mutB next next.length j p) = l.find? (fun j => mutB next next.length j q) := fun l => by
        induction l with
        | nil => intro _; rfl
        | cons j l ih =>
          intro hl
          have hj := hl j (by simp)
          have : mutB next next.length j p = mutB next next.length j q := by
            rw [Bool.eq_iff_iff, mutB_iff hc hj hp, mutB_iff hc hj hq]
            exact ⟨fun k => k.trans h, fun k => k.trans h.symm⟩
          rw [List.find?_cons, List.find?_cons, this, ih (fun x hx => hl x (by simp [hx]))]
      exact this _ (fun j hj => List.mem_range.1 hj)
    unfold ringV
    rw [e]
theorem ringsL_length (next : List (List Int)) (n : Nat) : (ringsL next n).length = n := by unfold ringsL; rw [numb_length, ringTo_length]
theorem ringsL_eq {next : List (List Int)} (hc : checkB next = true) {p q : Nat} (hp : p < next.length) (hq : q < next.length) : (ringsL next next.length).getD p 0 = (ringsL next next.length).getD q 0 ↔ MutP next p q := by
  unfold ringsL
  rw [num_ker _ (by rw [ringTo_length]; exact hp) (by rw [ringTo_length]; exact hq), ringTo_at hc _ (Nat.le_refl _) p hp, ringTo_at hc _ (Nat.le_refl _) q hq, ringV_eq hc hp hq]
/-- The edges, put together. -/
def rowT (R : List Int) (c : Nat) (out : List (List Int)) (l : List Int) : List (List Int) := out.set c (out.getD c [] ++ l.map fun q => R.getD q.toNat 0)
def togTo (next : List (List Int)) (R : List Int) (c : Nat) : Nat → List (List Int)
  | 0 => List.replicate c []
  | k + 1 => rowT R (R.getD k 0).toNat (togTo next R c k) (next.getD k [])
theorem rowT_length (R : List Int) (c : Nat) (out : List (List Int)) (l : List Int) : (rowT R c out l).length = out.length := by simp [rowT]
theorem togTo_length (next : List (List Int)) (R : List Int) (c : Nat) : ∀ k, (togTo next R c k).length = c
  | 0 => by simp [togTo]
  | k + 1 => by rw [togTo, rowT_length, togTo_length next R c k]
theorem rowT_snoc {R : List Int} {c : Nat} {out : List (List Int)} (hc : c < out.length) (l : List Int) (q : Int) : rowT R c out (l ++ [q]) = (rowT R c out l).set c ((rowT R c out l).getD c [] ++ [R.getD q.toNat 0]) := by
  unfold rowT
  rw [getD_set hc, if_pos rfl, List.set_set, List.map_append, List.append_assoc]
  rfl
theorem rowT_nil {R : List Int} {c : Nat} {out : List (List Int)} (hc : c < out.length) : rowT R c out [] = out := by
  unfold rowT
  rw [List.map_nil, List.append_nil]
  refine List.ext_getElem (by simp) fun i h1 h2 => ?_
  rw [List.getElem_set]
  split
  · rename_i h
    subst h
    exact getD_numL hc
  · rfl
theorem togTo_mem {next : List (List Int)} {R : List Int} {c : Nat} (hR : ∀ p, p < next.length → 0 ≤ R.getD p 0 ∧ R.getD p 0 < (c : Int)) (d : Nat) (y : Int) : ∀ k, k ≤ next.length → (y ∈ (togTo next R c k).getD d [] ↔ ∃ p, p < k ∧ R.getD p 0 = (d : Int) ∧ ∃ q ∈ next.getD p [], y = R.getD q.toNat 0)
  | 0, _ => by
    rw [togTo, List.getD_eq_getElem?_getD, List.getElem?_replicate]
    constructor
    · intro h
      split at h <;> simp at h
    · rintro ⟨p, hp, _⟩
      omega
  | k + 1, hk => by
    have ih := togTo_mem hR d y k (by omega)
    have hk2 := hR k (by omega)
    rw [togTo, rowT, getD_set (by rw [togTo_length]; omega)]
    by_cases hd : (R.getD k 0).toNat = d
    · rw [if_pos hd, hd, List.mem_append, ih, List.mem_map]
      constructor
      · rintro (⟨p, h1, h2⟩ | ⟨q, h1, h2⟩)
        · exact ⟨p, by omega, h2⟩
        · exact ⟨k, by omega, by omega, q, h1, h2.symm⟩
      · rintro ⟨p, h1, h2, q, h3, h4⟩
        by_cases hpk : p = k
        · subst hpk
          exact .inr ⟨q, h3, h4.symm⟩
        · exact .inl ⟨p, by omega, h2, q, h3, h4⟩
    · rw [if_neg hd, ih]
      constructor
      · rintro ⟨p, h1, h2⟩
        exact ⟨p, by omega, h2⟩
      · rintro ⟨p, h1, h2, h3⟩
        have : p ≠ k := by rintro rfl; omega
        exact ⟨p, by omega, h2, h3⟩
theorem togTo_total {next : List (List Int)} {R : List Int} {c : Nat} (hR : ∀ p, p < next.length → 0 ≤ R.getD p 0 ∧ R.getD p 0 < (c : Int)) : ∀ k, k ≤ next.length → total (togTo next R c k) ≤ total (next.take k)
  | 0, _ => by simp [togTo, total]
  | k + 1, hk => by
    have ih := togTo_total hR k (by omega)
    have hk2 := hR k (by omega)
    rw [togTo, rowT, total_take_succ (next := next) (k := k) (by omega)]
    have := total_put (out := togTo next R c k) (i := (R.getD k 0).toNat) (by rw [togTo_length]; omega) ((togTo next R c k).getD (R.getD k 0).toNat [] ++ (next.getD k []).map fun q => R.getD q.toNat 0)
    rw [List.length_append, List.length_map] at this
    omega
theorem togTo_short {next : List (List Int)} {R : List Int} {c : Nat} : ∀ k, k ≤ next.length → ∀ b, ((togTo next R c k).getD b []).length ≤ total (next.take k)
  | 0, _ => fun b => by
    rw [togTo, List.getD_eq_getElem?_getD, List.getElem?_replicate]
    split <;> simp
  | k + 1, hk => fun b => by
    have ih := togTo_short (next := next) (R := R) (c := c) k (by omega)
    rw [togTo, rowT, total_take_succ (next := next) (k := k) (by omega)]
    by_cases hc : (R.getD k 0).toNat < (togTo next R c k).length
    · rw [getD_set hc]
      have h1 := ih b
      have h2 := ih (R.getD k 0).toNat
      split
      · rw [List.length_append, List.length_map]
        omega
      · omega
    · rw [List.set_eq_of_length_le (by omega)]
      have h1 := ih b
      omega
theorem firsts_all : ∀ (L met : List Int), (met ++ L).Nodup → firsts met L = met ++ L
  | [], met, _ => by simp [firsts]
  | x :: L, met, h => by
    unfold firsts
    have hx : x ∉ met := fun hm => by
      rw [List.nodup_append] at h
      exact h.2.2 x hm x (by simp) rfl
    rw [if_neg hx, firsts_all L (met ++ [x]) (by simpa using h)]
    simp
theorem cnt_all {L : List Int} (h : L.Nodup) : cnt L = L.length := by
  unfold cnt
  rw [firsts_all L [] (by simpa using h)]
  rfl
structure RingsP (next : List (List Int)) (n c : Nat) (R : List Int) : Prop where
  isP : IsP R
  same : ∀ p q : Nat, p < n → q < n → (R.getD p 0 = R.getD q 0 ↔ 0 ≤ (waysL next n p).getD q 0 ∧ 0 ≤ (waysL next n q).getD p 0)
  bd : ∀ p : Nat, p < n → 0 ≤ R.getD p 0 ∧ R.getD p 0 < (c : Int)
  few : c ≤ n
  check : checkB (togTo next R c n) = true
  isP2 : IsP (ringsL (togTo next R c n) c)
  apart : cnt (ringsL (togTo next R c n) c) = c
theorem rings_plain {next : List (List Int)} (hc : checkB next = true) {R : List Int} (hR : ringsL next next.length = R) {c : Nat} (hcn : cnt R = c) : RingsP next next.length c R := by
  have hRl : R.length = next.length := by rw [← hR, ringsL_length]
  have heq : ∀ p q : Nat, p < next.length → q < next.length → (R.getD p 0 = R.getD q 0 ↔ MutP next p q) := fun p q hp hq => by rw [← hR]; exact ringsL_eq hc hp hq
  have hIs : IsP R := by rw [← hR]; exact isP_numb _
  have hc2 : (firsts [] R).length = c := hcn
  have hbd : ∀ p : Nat, p < next.length → 0 ≤ R.getD p 0 ∧ R.getD p 0 < (c : Int) := fun p hp => by
    have h1 := numb_bound R (R.getD p 0) (by
      rw [show numb [] R = R from hIs, getD_num (by omega)]
      exact List.getElem_mem _)
    rw [hc2] at h1
    exact h1
  have hfew : c ≤ next.length := by
    have := firsts_length_le R []
    rw [hc2] at this
    simp only [List.length_nil] at this
    omega
  obtain ⟨g1, g2, g3⟩ := checkB_iff.1 hc
  have hchk : checkB (togTo next R c next.length) = true := by
    refine checkB_iff.2 ⟨by rw [togTo_length]; omega, ?_, fun l hl x hx => ?_⟩
    · have := togTo_total hbd next.length (Nat.le_refl _)
      rw [List.take_length] at this
      omega
    · rw [togTo_length]
      obtain ⟨i, hi, rfl⟩ := getD_of_mem hl
      obtain ⟨p, hp, _, q, hq, rfl⟩ := (togTo_mem hbd i x next.length (Nat.le_refl _)).1 hx
      have := checkB_succ hc p (by omega) q (by unfold succL; rw [Int.toNat_natCast]; exact hq)
      exact hbd q.toNat (by omega)
  have honto : ∀ d : Nat, d < c → ∃ p : Nat, p < next.length ∧ R.getD p 0 = (d : Int) := fun d hd => by
    have h1 := numb_onto R d (by rw [hc2]; exact hd)
    rw [show numb [] R = R from hIs] at h1
    obtain ⟨p, hp, h2⟩ := List.getElem_of_mem h1
    exact ⟨p, by omega, by rw [getD_num hp, h2]⟩
  -- a way between rings is a way between their points
  have lift : ∀ (a b : Int), 0 ≤ a → Av (succL (togTo next R c next.length)) (-1) a b → ∀ p q : Nat, p < next.length → q < next.length → R.getD p 0 = a → R.getD q 0 = b → Av (succL next) (-1) p q := by
    intro a b ha h
    induction h with
    | refl _ =>
      intro p q hp hq h1 h2
      exact ((heq p q hp hq).1 (by rw [h1, h2])).1
    | @step b' b h1 h2 h3 ih =>
      intro p q hp hq h4 h5
      unfold succL at h2
      obtain ⟨p2, hp2, h6, q2, hq2, h7⟩ := (togTo_mem hbd b'.toNat b next.length (Nat.le_refl _)).1 h2
      have hb' : 0 ≤ b' := by
        cases h1 with
        | refl _ => exact ha
        | step k1 k2 k3 =>
          unfold succL at k2
          obtain ⟨p3, hp3, _, q3, hq3, rfl⟩ := (togTo_mem hbd _ _ next.length (Nat.le_refl _)).1 k2
          have := checkB_succ hc p3 (by omega) q3 (by unfold succL; rw [Int.toNat_natCast]; exact hq3)
          exact (hbd q3.toNat (by omega)).1
      have hq2n := checkB_succ hc p2 (by omega) q2 (by unfold succL; rw [Int.toNat_natCast]; exact hq2)
      have m1 := ih p p2 hp hp2 h4 (by rw [h6]; omega)
      have m2 : Av (succL next) (-1) p q2 := .step m1 (by unfold succL; rw [Int.toNat_natCast]; exact hq2) (by omega)
      have m3 := ((heq q2.toNat q (by omega) hq).1 (by rw [h5, h7])).1
      rw [show ((q2.toNat : Nat) : Int) = q2 by omega] at m3
      exact m2.trans m3
  have hT := hchk
  have hTl : (togTo next R c next.length).length = c := togTo_length _ _ _ _
  refine ⟨hIs, ?_, hbd, hfew, hchk, isP_numb _, ?_⟩
  · intro p q hp hq
    have f1 := ((finds hc (s := (p : Int)) (by omega)).far q hq).1
    have f2 := ((finds hc (s := (q : Int)) (by omega)).far p hp).1
    have e : ∀ (x y : Nat), x < next.length → ((y : Int) ∈ fromL next next.length x ↔ Av (succL next) (-1) x y) := fun x y hx => by
      unfold fromL
      rw [found_mem (checkB_succ hc) (fun z hz => by rw [List.mem_singleton.1 hz]; omega)]
      simp only [List.mem_singleton, exists_eq_left]
    rw [heq p q hp hq, f1, f2, e p q hp, e q p hq]
    exact Iff.rfl
  · have hnd : (ringsL (togTo next R c next.length) c).Nodup := by
      rw [List.nodup_iff_pairwise_ne, List.pairwise_iff_getElem]
      intro i j hi hj hij he
      rw [ringsL_length] at hi hj
      have h1 := ringsL_eq hT (p := i) (q := j) (by rw [hTl]; exact hi) (by rw [hTl]; exact hj)
      rw [hTl, getD_num (by rw [ringsL_length]; exact hi), getD_num (by rw [ringsL_length]; exact hj)] at h1
      have hm := h1.1 he
      obtain ⟨p, hp, hpe⟩ := honto i hi
      obtain ⟨q, hq, hqe⟩ := honto j hj
      have m : MutP next p q := ⟨lift i j (by omega) hm.1 p q hp hq hpe hqe, lift j i (by omega) hm.2 q p hq hp hqe hpe⟩
      have := (heq p q hp hq).2 m
      omega
    rw [cnt_all hnd, ringsL_length]
end Go.Proofs.Ythpdflpkkiabhaa
