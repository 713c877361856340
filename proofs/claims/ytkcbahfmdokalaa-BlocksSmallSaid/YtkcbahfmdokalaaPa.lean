/-
  The plain law of partitions: Meet and Join are a lattice. No program in sight; no condition.
-/
import Derived.Test.YtkcbahfmdokalaaI
import Derived.Test.YtkcbahfmdokalaaMk
import Derived.Test.YtkcbahfmdokalaaQ
namespace Go.Proofs.Ytkcbahfmdokalaa
set_option linter.unusedVariables false
theorem joinKeys_length' (p q : List Int) : (joinKeys p q).length = p.length := by simp [joinKeys]
theorem joinL_length' (p q : List Int) : (joinL p q).length = p.length := by rw [joinL, numb_length, joinKeys_length']
/-- A partition of n elements. -/
structure Pt (n : Nat) (p : List Int) : Prop where
  len : p.length = n
  isP : IsP p
theorem pt_ext {n : Nat} {p q : List Int} (hp : Pt n p) (hq : Pt n q) (h : SameKer n p q) : p = q :=
  isP_ext hp.isP hq.isP (by rw [hp.len, hq.len]) (by rw [hp.len]; exact h)
theorem pt_bothE {n : Nat} {p q : List Int} (hp : Pt n p) (hq : Pt n q) (hn : n ≤ 1024) : bothE p q = 0 := by
  unfold bothE
  rw [if_pos ⟨rightB_iff.2 ⟨by rw [hp.len]; exact hn, hp.isP⟩, rightB_iff.2 ⟨by rw [hq.len]; exact hn, hq.isP⟩⟩, if_pos (by rw [hp.len, hq.len])]
theorem pt_right {n : Nat} {p : List Int} (hp : Pt n p) (hn : n ≤ 1024) : rightB p = true := rightB_iff.2 ⟨by rw [hp.len]; exact hn, hp.isP⟩
theorem pt_good {n : Nat} {p : List Int} (hp : Pt n p) (hn : n ≤ 1024) : Good p := isP_good hp.isP (by rw [hp.len]; omega)
theorem pt_made {xs : List Int} {m : Nat} (h1 : m ≤ xs.length) (h2 : m ≤ 30) : Pt m (madeL (xs.take m)) :=
  ⟨by rw [madeL_length, List.length_take]; omega, madeL_isP _⟩
section
variable {n : Nat} {p q r : List Int}
theorem meet_pt (hp : Pt n p) (hq : Pt n q) : Pt n (meetL p q) :=
  ⟨by simp [meetL, numb_length, hp.len, hq.len], isP_numb _⟩
theorem join_pt (hp : Pt n p) (_hq : Pt n q) : Pt n (joinL p q) := ⟨by rw [joinL_length', hp.len], isP_numb _⟩
theorem meet_ker (hp : Pt n p) (hq : Pt n q) {i j : Nat} (hi : i < n) (hj : j < n) : (meetL p q).getD i 0 = (meetL p q).getD j 0 ↔ p.getD i 0 = p.getD j 0 ∧ q.getD i 0 = q.getD j 0 := by
  have hl : (p.zip q).length = n := by simp [hp.len, hq.len]
  have h1 := hp.len
  have h2 := hq.len
  unfold meetL
  rw [getD_num (by rw [numb_length]; omega), getD_num (by rw [numb_length]; omega), numb_ker (p.zip q) (by omega) (by omega), List.getElem_zip, List.getElem_zip, Prod.mk.injEq, getD_num (by omega), getD_num (by omega), getD_num (by omega), getD_num (by omega)]
theorem join_ties (hp : Pt n p) (hq : Pt n q) : Ties n p q (joinL p q) := by
  have := joinL_ties hp.isP (by rw [hp.len, hq.len] : q.length = p.length)
  rwa [hp.len] at this
theorem fixes_comm {R : List Int} (h : Fixes n p q R) : Fixes n q p R := fun i j hi hj he => h i j hi hj he.symm
theorem join_eq (hp : Pt n p) (hq : Pt n q) {J : List Int} (hJ : Pt n J) (h : Ties n p q J) : joinL p q = J := pt_ext (join_pt hp hq) hJ (ties_same (join_ties hp hq) h)
theorem meet_comm (hp : Pt n p) (hq : Pt n q) : meetL p q = meetL q p :=
  pt_ext (meet_pt hp hq) (meet_pt hq hp) fun i j hi hj => by rw [meet_ker hp hq hi hj, meet_ker hq hp hi hj, and_comm]
theorem join_comm (hp : Pt n p) (hq : Pt n q) : joinL p q = joinL q p :=
  join_eq hp hq (join_pt hq hp) ⟨fixes_comm (join_ties hq hp).1, fun R hR => (join_ties hq hp).2 R (fixes_comm hR)⟩
theorem meet_join (hp : Pt n p) (hq : Pt n q) : meetL p (joinL p q) = p :=
  pt_ext (meet_pt hp (join_pt hp hq)) hp fun i j hi hj => by
    rw [meet_ker hp (join_pt hp hq) hi hj]
    exact ⟨fun h => h.1, fun h => ⟨h, (join_ties hp hq).1 i j hi hj (.inl h)⟩⟩
theorem join_meet (hp : Pt n p) (hq : Pt n q) : joinL p (meetL p q) = p :=
  join_eq hp (meet_pt hp hq) hp ⟨fun i j hi hj h => h.elim id fun h => ((meet_ker hp hq hi hj).1 h).1, fun R hR i j hi hj h => hR i j hi hj (.inl h)⟩
theorem finer_iff (hp : Pt n p) (hq : Pt n q) : meetL p q = p ↔ Fin n p q := by
  constructor
  · intro h i j hi hj he
    rw [← h, meet_ker hp hq hi hj] at he
    exact he.2
  · intro h
    exact pt_ext (meet_pt hp hq) hp fun i j hi hj => by
      rw [meet_ker hp hq hi hj]
      exact ⟨fun h => h.1, fun he => ⟨he, h i j hi hj he⟩⟩
theorem finer_join (hp : Pt n p) (hq : Pt n q) : joinL p q = q ↔ Fin n p q := by
  constructor
  · intro h i j hi hj he
    rw [← h]
    exact (join_ties hp hq).1 i j hi hj (.inl he)
  · intro h
    exact join_eq hp hq hq ⟨fun i j hi hj he => he.elim (h i j hi hj) id, fun R hR i j hi hj he => hR i j hi hj (.inr he)⟩
theorem meet_finer (hp : Pt n p) (hq : Pt n q) : meetL (meetL p q) p = meetL p q :=
  (finer_iff (meet_pt hp hq) hp).2 fun i j hi hj h => ((meet_ker hp hq hi hj).1 h).1
theorem meet_assoc (hp : Pt n p) (hq : Pt n q) (hr : Pt n r) : meetL (meetL p q) r = meetL p (meetL q r) :=
  pt_ext (meet_pt (meet_pt hp hq) hr) (meet_pt hp (meet_pt hq hr)) fun i j hi hj => by
    rw [meet_ker (meet_pt hp hq) hr hi hj, meet_ker hp hq hi hj, meet_ker hp (meet_pt hq hr) hi hj, meet_ker hq hr hi hj, and_assoc]
theorem join_assoc (hp : Pt n p) (hq : Pt n q) (hr : Pt n r) : joinL (joinL p q) r = joinL p (joinL q r) := by
  have t1 := join_ties hp hq
  have t2 := join_ties hq hr
  have t3 := join_ties hp (join_pt hq hr)
  refine join_eq (join_pt hp hq) hr (join_pt hp (join_pt hq hr)) ⟨fun i j hi hj h => ?_, fun R hR i j hi hj h => ?_⟩
  · rcases h with h | h
    · refine t1.2 _ (fun i j hi hj h => ?_) i j hi hj h
      rcases h with h | h
      · exact t3.1 i j hi hj (.inl h)
      · exact t3.1 i j hi hj (.inr (t2.1 i j hi hj (.inl h)))
    · exact t3.1 i j hi hj (.inr (t2.1 i j hi hj (.inr h)))
  · refine t3.2 R (fun i j hi hj h => ?_) i j hi hj h
    rcases h with h | h
    · exact hR i j hi hj (.inl (t1.1 i j hi hj (.inl h)))
    · refine t2.2 R (fun i j hi hj h => ?_) i j hi hj h
      rcases h with h | h
      · exact hR i j hi hj (.inl (t1.1 i j hi hj (.inr h)))
      · exact hR i j hi hj (.inr h)
/-! Refining. -/
variable {next : List (List Int)}
theorem refine_pt (hp : Pt n p) (hl : next.length = n) : Pt n (refineL p next) := ⟨by rw [refineL_length (by rw [hl, hp.len]), hp.len], refineL_isP _ _⟩
theorem refine_ker (hp : Pt n p) (hl : next.length = n) {i j : Nat} (hi : i < n) (hj : j < n) : (refineL p next).getD i 0 = (refineL p next).getD j 0 ↔ Agree p next i j :=
  refineL_ker (by rw [hl, hp.len]) (by rw [hp.len]; exact hi) (by rw [hp.len]; exact hj)
theorem refine_fin (hp : Pt n p) (hl : next.length = n) : Fin n (refineL p next) p := fun _ _ hi hj h => ((refine_ker hp hl hi hj).1 h).1
/-- What stays finer: what is next lies among the elements. -/
theorem refine_mono (hp : Pt n p) (hq : Pt n q) (hl : NextOk n next) (h : Fin n p q) : Fin n (refineL p next) (refineL q next) := by
  intro i j hi hj he
  rw [refine_ker hp hl.1 hi hj] at he
  rw [refine_ker hq hl.1 hi hj]
  refine ⟨h i j hi hj he.1, ?_⟩
  have hlen : (next.getD i []).length = (next.getD j []).length := by
    have := congrArg List.length he.2
    simpa using this
  apply List.ext_getElem (by simpa using hlen)
  intro k h1 h2
  simp only [List.length_map] at h1 h2
  simp only [List.getElem_map]
  have e : ((next.getD i []).map fun x => p.getD x.toNat 0)[k]? = ((next.getD j []).map fun x => p.getD x.toNat 0)[k]? := by rw [he.2]
  rw [List.getElem?_map, List.getElem?_map, List.getElem?_eq_getElem h1, List.getElem?_eq_getElem h2, Option.map_some, Option.map_some, Option.some.injEq] at e
  have b1 := (hl.2 _ (getD_mem (d := []) (by rw [hl.1]; exact hi))).2 _ (List.getElem_mem h1)
  have b2 := (hl.2 _ (getD_mem (d := []) (by rw [hl.1]; exact hj))).2 _ (List.getElem_mem h2)
  exact h _ _ (by omega) (by omega) e
theorem stable_cnt (hp : Pt n p) (hl : next.length = n) : cnt (refineL p next) = cnt p ↔ refineL p next = p := stable_iff hp.isP (by rw [hl, hp.len])
/-- What the loop comes to. -/
structure CoOk (n : Nat) (next : List (List Int)) (p c : List Int) (k : Nat) : Prop where
  pt : Pt n c
  fin : Fin n c p
  stable : refineL c next = c
  count : cnt p + k ≤ cnt c
  best : ∀ s, Pt n s → refineL s next = s → Fin n s p → Fin n s c
theorem coarseGo_ok (hl : NextOk n next) : ∀ (f : Nat) (p : List Int) (c : Nat), Pt n p → n - cnt p < f → ∃ k, (coarseGo next f p c).2 = c + k ∧ CoOk n next p (coarseGo next f p c).1 k
  | 0, _, _, _, h => by omega
  | f + 1, p, c, hp, h => by
    unfold coarseGo
    by_cases he : cnt (refineL p next) = cnt p
    · rw [if_pos he]
      exact ⟨0, rfl, hp, fun _ _ _ _ h => h, (stable_cnt hp hl.1).1 he, by show cnt p + 0 ≤ cnt p; omega, fun s _ _ h => h⟩
    · rw [if_neg he]
      have hr := refine_pt hp hl.1
      have hc := cnt_refine (p := p) (next := next) (by rw [hl.1, hp.len])
      have hle := cnt_le_length (refineL p next)
      rw [hr.len] at hle
      obtain ⟨k, h1, h2⟩ := coarseGo_ok hl f (refineL p next) (c + 1) hr (by omega)
      refine ⟨k + 1, by omega, h2.pt, fun i j hi hj e => refine_fin hp hl.1 i j hi hj (h2.fin i j hi hj e), h2.stable, by have := h2.count; omega, fun s hs hst hf => h2.best s hs hst ?_⟩
      have := refine_mono hs hp hl hf
      rwa [hst] at this
theorem coarseL_ok (hp : Pt n p) (hl : NextOk n next) : CoOk n next p (coarseL p next).1 (coarseL p next).2 := by
  obtain ⟨k, h1, h2⟩ := coarseGo_ok hl (n + 1) p 0 hp (by omega)
  have e : coarseL p next = coarseGo next (n + 1) p 0 := by rw [coarseL, hp.len]
  rw [e]
  have : (coarseGo next (n + 1) p 0).2 = k := by omega
  rw [this]
  exact h2
theorem coarse_stable (hl : next.length = n) (hp : Pt n p) (hs : refineL p next = p) : coarseL p next = (p, 0) := by
  rw [coarseL, hp.len]
  unfold coarseGo
  rw [if_pos (by rw [hs])]
/-! Quotients. -/
theorem getD_setN {α : Type} {xs : List α} {d x : α} {i j : Nat} (h : i < xs.length) : (xs.set i x).getD j d = if i = j then x else xs.getD j d := getD_set h
theorem pt_bound (hp : Pt n p) {i : Nat} (hi : i < n) : 0 ≤ p.getD i 0 ∧ p.getD i 0 < cnt p := by
  have := numb_bound p (p.getD i 0) (by rw [show numb [] p = p from hp.isP]; exact getD_mem (by rw [hp.len]; exact hi))
  exact this
/-- The row of a block is that of an element of it. -/
theorem qAt_row (hp : Pt n p) (hl : next.length = n) : ∀ (m k : Nat), k + m = n → ∀ i, k ≤ i → i < n → ∃ j, k ≤ j ∧ j < n ∧ p.getD j 0 = p.getD i 0 ∧ (qAt p next k).getD (p.getD i 0).toNat [] = rowOf p (next.getD j [])
  | 0, k, hk, i, h1, h2 => by omega
  | m + 1, k, hk, i, h1, h2 => by
    have hkn : k < n := by omega
    have bk := pt_bound hp hkn
    have bi := pt_bound hp h2
    rw [qAt_step (by rw [hp.len]; exact hkn) (by rw [hl]; exact hkn), getD_setN (by rw [qAt_length]; omega)]
    by_cases he : (p.getD k 0).toNat = (p.getD i 0).toNat
    · rw [if_pos he]
      exact ⟨k, by omega, hkn, by omega, rfl⟩
    · rw [if_neg he]
      have hik : i ≠ k := fun e => he (by rw [e])
      obtain ⟨j, a1, a2, a3, a4⟩ := qAt_row hp hl m (k + 1) (by omega) i (by omega) h2
      exact ⟨j, by omega, a2, a3, a4⟩
theorem quot_row (hp : Pt n p) (hl : next.length = n) (hs : refineL p next = p) {i : Nat} (hi : i < n) : (quotL p next).getD (p.getD i 0).toNat [] = rowOf p (next.getD i []) := by
  obtain ⟨j, _, hj, he, hr⟩ := qAt_row hp hl n 0 (by omega) i (by omega) hi
  show (qAt p next 0).getD _ [] = _
  rw [hr]
  have h2 : (refineL p next).getD j 0 = (refineL p next).getD i 0 := by rw [hs]; exact he
  rw [refine_ker hp hl hj hi] at h2
  exact h2.2
theorem quot_length (p : List Int) (next : List (List Int)) : (quotL p next).length = cnt p := qAt_length _ _ _
end
end Go.Proofs.Ytkcbahfmdokalaa
