/-
  The plain law of BlocksCoarsest: the quotient of what is coarsest can be put together no more. No program in sight; no condition.
-/
import Derived.Test.YtkcbahfmdokalaaPa
namespace Go.Proofs.Ytkcbahfmdokalaa
set_option linter.unusedVariables false
/-- The first of each block, from the k-th element on. -/
def firstAt (p c : List Int) (k : Nat) : List Int := ((c.zip p).drop k).foldr (fun x acc => acc.set x.1.toNat x.2) (List.replicate (cnt c) 0)
def firstOf (p c : List Int) : List Int := firstAt p c 0
theorem firstAt_length (p c : List Int) (k : Nat) : (firstAt p c k).length = cnt c := by
  unfold firstAt
  generalize (c.zip p).drop k = Z
  induction Z with
  | nil => simp
  | cons x r ih => simp only [List.foldr_cons, List.length_set, ih]
theorem firstAt_end {p c : List Int} {k : Nat} (h : c.length ≤ k) : firstAt p c k = List.replicate (cnt c) 0 := by
  unfold firstAt
  rw [List.drop_of_length_le (by rw [List.length_zip]; omega)]
  rfl
theorem firstAt_step {p c : List Int} {k : Nat} (h1 : k < p.length) (h2 : k < c.length) : firstAt p c k = (firstAt p c (k + 1)).set (c.getD k 0).toNat (p.getD k 0) := by
  unfold firstAt
  rw [List.drop_eq_getElem_cons (by rw [List.length_zip]; omega), List.getElem_zip, getD_num h1, getD_num h2]
  rfl
theorem firsts_nd {α : Type} [BEq α] [LawfulBEq α] [DecidableEq α] : ∀ (K met : List α), (met ++ K).Nodup → firsts met K = met ++ K
  | [], met, _ => by simp [firsts]
  | x :: r, met, h => by
    have hx : x ∉ met := fun hm => by
      rw [List.nodup_append] at h
      exact h.2.2 x hm x (by simp) rfl
    unfold firsts
    rw [if_neg hx, firsts_nd r (met ++ [x]) (by simpa using h)]
    simp
theorem cnt_nd {α : Type} [BEq α] [LawfulBEq α] [DecidableEq α] {K : List α} (h : K.Nodup) : cnt K = K.length := by
  unfold cnt
  rw [firsts_nd K [] (by simpa using h)]
  simp
section
variable {n : Nat} {p c : List Int} {next : List (List Int)}
theorem firstAt_at (hp : p.length = n) (hc : Pt n c) (hf : Fin n c p) : ∀ (m k : Nat), k + m = n → ∀ i, k ≤ i → i < n → (firstAt p c k).getD (c.getD i 0).toNat 0 = p.getD i 0
  | 0, k, hk, i, h1, h2 => by omega
  | m + 1, k, hk, i, h1, h2 => by
    have hkn : k < n := by omega
    have bk := pt_bound hc hkn
    have bi := pt_bound hc h2
    rw [firstAt_step (by rw [hp]; exact hkn) (by rw [hc.len]; exact hkn), getD_setN (by rw [firstAt_length]; omega)]
    by_cases he : (c.getD k 0).toNat = (c.getD i 0).toNat
    · rw [if_pos he]
      exact hf k i hkn h2 (by omega)
    · rw [if_neg he]
      have hik : i ≠ k := fun e => he (by rw [e])
      exact firstAt_at hp hc hf m (k + 1) (by omega) i (by omega) h2
theorem firstOf_at (hp : p.length = n) (hc : Pt n c) (hf : Fin n c p) {i : Nat} (hi : i < n) : (firstOf p c).getD (c.getD i 0).toNat 0 = p.getD i 0 := firstAt_at hp hc hf n 0 (by omega) i (by omega) hi
/-- Each block has an element. -/
theorem pt_onto (hc : Pt n c) {b : Nat} (hb : b < cnt c) : ∃ i, i < n ∧ c.getD i 0 = b := by
  have h5 := numb_onto c b hb
  rw [show numb [] c = c from hc.isP] at h5
  obtain ⟨j, hj, he⟩ := List.mem_iff_getElem.1 h5
  rw [hc.len] at hj
  exact ⟨j, hj, by rw [getD_num (by rw [hc.len]; exact hj), he]⟩
theorem quot_ok (hc : Pt n c) (hl : NextOk n next) (hs : refineL c next = c) : NextOk (cnt c) (quotL c next) := by
  refine ⟨quot_length _ _, fun l hl2 => ?_⟩
  obtain ⟨b, hb, rfl⟩ := List.mem_iff_getElem.1 hl2
  rw [quot_length] at hb
  obtain ⟨i, hi, he⟩ := pt_onto hc hb
  have hr := quot_row hc hl.1 hs hi
  rw [he, Int.toNat_natCast, getD_numL (by rw [quot_length]; exact hb)] at hr
  rw [hr]
  have hm := hl.2 _ (getD_mem (d := []) (i := i) (by rw [hl.1]; exact hi))
  refine ⟨by rw [rowOf_length]; exact hm.1, fun x hx => ?_⟩
  obtain ⟨y, hy, rfl⟩ := List.mem_map.1 hx
  have := hm.2 y hy
  exact pt_bound hc (by omega)
theorem quot_end {e : List Int} {k : Nat} (hp : Pt n p) (hl : NextOk n next) {k0 : Nat} (hc : CoOk n next p c k0) (he : CoOk (cnt c) (quotL c next) (numb [] (firstOf p c)) e k) : cnt e = cnt c := by
  have hq := quot_ok hc.pt hl hc.stable
  have hfl : (firstOf p c).length = cnt c := firstAt_length _ _ _
  -- the partition of the elements by the quotient's own
  have hEl : (c.map fun b => e.getD b.toNat 0).length = n := by rw [List.length_map, hc.pt.len]
  have hEa : ∀ i, i < n → (c.map fun b => e.getD b.toNat 0).getD i 0 = e.getD (c.getD i 0).toNat 0 := fun i hi => by
    have h1 : c[i]'(by rw [hc.pt.len]; exact hi) = c.getD i 0 := (getD_num _).symm
    rw [getD_num (xs := c.map fun b => e.getD b.toNat 0) (by rw [hEl]; exact hi), List.getElem_map, h1]
  have hs : Pt n (numb [] (c.map fun b => e.getD b.toNat 0)) := ⟨by rw [numb_length, hEl], isP_numb _⟩
  have hsk : ∀ i j, i < n → j < n → ((numb [] (c.map fun b => e.getD b.toNat 0)).getD i 0 = (numb [] (c.map fun b => e.getD b.toNat 0)).getD j 0 ↔ e.getD (c.getD i 0).toNat 0 = e.getD (c.getD j 0).toNat 0) := fun i j hi hj => by
    rw [num_ker _ (by rw [hEl]; exact hi) (by rw [hEl]; exact hj), hEa i hi, hEa j hj]
  obtain ⟨s, hsd⟩ : ∃ s, numb [] (c.map fun b => e.getD b.toNat 0) = s := ⟨_, rfl⟩
  rw [hsd] at hs hsk
  have hb : ∀ i, i < n → (c.getD i 0).toNat < cnt c := fun i hi => by have := pt_bound hc.pt hi; omega
  -- finer than p
  have hf : Fin n s p := fun i j hi hj h => by
    have h1 := (hsk i j hi hj).1 h
    have h2 := he.fin _ _ (hb i hi) (hb j hj) h1
    rw [num_ker _ (by rw [hfl]; exact hb i hi) (by rw [hfl]; exact hb j hj), firstOf_at hp.len hc.pt hc.fin hi, firstOf_at hp.len hc.pt hc.fin hj] at h2
    exact h2
  -- stable
  have hst : refineL s next = s := pt_ext (refine_pt hs hl.1) hs fun i j hi hj => by
    refine ⟨fun h => refine_fin hs hl.1 i j hi hj h, fun h => ?_⟩
    rw [refine_ker hs hl.1 hi hj]
    refine ⟨h, ?_⟩
    have h1 := (hsk i j hi hj).1 h
    have h2 : (refineL e (quotL c next)).getD (c.getD i 0).toNat 0 = (refineL e (quotL c next)).getD (c.getD j 0).toNat 0 := by rw [he.stable]; exact h1
    rw [refine_ker he.pt hq.1 (hb i hi) (hb j hj)] at h2
    have h3 := h2.2
    rw [quot_row hc.pt hl.1 hc.stable hi, quot_row hc.pt hl.1 hc.stable hj] at h3
    unfold rowOf at h3
    rw [List.map_map, List.map_map] at h3
    have hlen : (next.getD i []).length = (next.getD j []).length := by
      have := congrArg List.length h3
      simpa using this
    apply List.ext_getElem (by simpa using hlen)
    intro k h5 h6
    simp only [List.length_map] at h5 h6
    simp only [List.getElem_map]
    have e3 : ((next.getD i []).map ((fun x => e.getD x.toNat 0) ∘ fun x => c.getD x.toNat 0))[k]? = ((next.getD j []).map ((fun x => e.getD x.toNat 0) ∘ fun x => c.getD x.toNat 0))[k]? := by rw [h3]
    rw [List.getElem?_map, List.getElem?_map, List.getElem?_eq_getElem h5, List.getElem?_eq_getElem h6, Option.map_some, Option.map_some, Option.some.injEq] at e3
    have b1 := (hl.2 _ (getD_mem (d := []) (by rw [hl.1]; exact hi))).2 _ (List.getElem_mem h5)
    have b2 := (hl.2 _ (getD_mem (d := []) (by rw [hl.1]; exact hj))).2 _ (List.getElem_mem h6)
    exact (hsk _ _ (by omega) (by omega)).2 e3
  have hbest := hc.best s hs hst hf
  -- so different blocks are apart
  have hinj : ∀ a b, a < cnt c → b < cnt c → e.getD a 0 = e.getD b 0 → a = b := fun a b ha hb2 hab => by
    obtain ⟨i, hi, hia⟩ := pt_onto hc.pt ha
    obtain ⟨j, hj, hjb⟩ := pt_onto hc.pt hb2
    have h1 := hbest i j hi hj ((hsk i j hi hj).2 (by rw [hia, hjb, Int.toNat_natCast, Int.toNat_natCast]; exact hab))
    omega
  have hnd : e.Nodup := by
    rw [List.nodup_iff_pairwise_ne, List.pairwise_iff_getElem]
    intro a b ha hb2 hlt h
    rw [he.pt.len] at ha hb2
    have := hinj a b ha hb2 (by rw [getD_num (by rw [he.pt.len]; exact ha), getD_num (by rw [he.pt.len]; exact hb2)]; exact h)
    omega
  rw [cnt_nd hnd, he.pt.len]
end
end Go.Proofs.Ytkcbahfmdokalaa
