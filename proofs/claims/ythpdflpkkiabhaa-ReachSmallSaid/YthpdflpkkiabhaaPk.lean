/-
  Layer 7, plain: what ReachCloses says. No condition.
-/
import Derived.Test.YthpdflpkkiabhaaPw
namespace Go.Proofs.Ythpdflpkkiabhaa
set_option linter.unusedVariables false
theorem closureL_rise {next : List (List Int)} {l : List Int} (hc : checkB next = true) (hl : ∀ x ∈ l, 0 ≤ x ∧ x < (next.length : Int)) : (closureL next next.length l).Pairwise (· < ·) :=
  sortL_rise (found_rec (o := -1) (checkB_succ hc) hl (fun _ _ => True) trivial (fun _ _ _ _ _ _ => trivial)).1.once
theorem closureL_mem {next : List (List Int)} {l : List Int} (hc : checkB next = true) (hl : ∀ x ∈ l, 0 ≤ x ∧ x < (next.length : Int)) (p : Int) : p ∈ closureL next next.length l ↔ ∃ a ∈ l, Av (succL next) (-1) a p := by
  unfold closureL
  rw [sortL_mem, found_mem (checkB_succ hc) hl]
theorem closureL_pts {next : List (List Int)} {l : List Int} (hc : checkB next = true) (hl : ∀ x ∈ l, 0 ≤ x ∧ x < (next.length : Int)) : ∀ p ∈ closureL next next.length l, 0 ≤ p ∧ p < (next.length : Int) := fun p hp => by
  unfold closureL at hp
  rw [sortL_mem, List.mem_map] at hp
  obtain ⟨y, hy, rfl⟩ := hp
  exact (found_rec (o := -1) (checkB_succ hc) hl (fun _ _ => True) trivial (fun _ _ _ _ _ _ => trivial)).1.pt y hy
theorem closureL_has {next : List (List Int)} {l : List Int} (hc : checkB next = true) (hl : ∀ x ∈ l, 0 ≤ x ∧ x < (next.length : Int)) : ∀ p ∈ l, p ∈ closureL next next.length l := fun p hp => (closureL_mem hc hl p).2 ⟨p, hp, .refl (by have := hl p hp; omega)⟩
theorem closureL_twice {next : List (List Int)} {l : List Int} (hc : checkB next = true) (hl : ∀ x ∈ l, 0 ≤ x ∧ x < (next.length : Int)) : closureL next next.length (closureL next next.length l) = closureL next next.length l := by
  have hp := closureL_pts hc hl
  refine rise_ext (closureL_rise hc hp) (closureL_rise hc hl) fun x => ⟨fun hx => ?_, closureL_has hc hp x⟩
  obtain ⟨a, ha, h1⟩ := (closureL_mem hc hp x).1 hx
  obtain ⟨b, hb, h2⟩ := (closureL_mem hc hl a).1 ha
  exact (closureL_mem hc hl x).2 ⟨b, hb, h2.trans h1⟩
theorem closedB_eq {next : List (List Int)} {l : List Int} (hc : checkB next = true) (hl : ∀ x ∈ l, 0 ≤ x ∧ x < (next.length : Int)) : closedB next next.length l = decide (closureL next next.length l = Lib.compact (sortL l)) := by
  unfold closedB
  by_cases h : (closureL next next.length l).length = (Lib.compact (sortL l)).length
  · rw [decide_eq_true h, decide_eq_true]
    exact sub_eq (closureL_rise hc hl) (comp_rise l) (fun x hx => closureL_has hc hl x ((comp_mem l x).1 hx)) h
  · rw [decide_eq_false h, decide_eq_false]
    intro e
    exact h (by rw [e])
structure ClosesP (next : List (List Int)) (n : Nat) (x y : List Int) : Prop where
  twice : closureL next n (closureL next n x) = closureL next n x
  is : closedB next n (closureL next n x) = true
  both : closureL next n (x ++ y) = Lib.compact (sortL (closureL next n x ++ closureL next n y))
  has : ∀ p ∈ x, p ∈ closureL next n x
  own : closedB next n x = decide (closureL next n x = Lib.compact (sortL x))
  pts : ∀ p ∈ closureL next n x, 0 ≤ p ∧ p < (n : Int)
theorem closes_plain {next : List (List Int)} (hc : checkB next = true) {x y : List Int} (hx : ∀ p ∈ x, 0 ≤ p ∧ p < (next.length : Int)) (hy : ∀ p ∈ y, 0 ≤ p ∧ p < (next.length : Int)) : ClosesP next next.length x y := by
  have hxy : ∀ p ∈ x ++ y, 0 ≤ p ∧ p < (next.length : Int) := fun p hp => (List.mem_append.1 hp).elim (hx p) (hy p)
  have hp := closureL_pts hc hx
  refine ⟨closureL_twice hc hx, ?_, ?_, closureL_has hc hx, closedB_eq hc hx, hp⟩
  · rw [closedB_eq hc hp, decide_eq_true_iff, closureL_twice hc hx]
    exact (comp_eq (closureL_rise hc hx) (fun _ => Iff.rfl)).symm
  · refine (comp_eq (closureL_rise hc hxy) fun p => ?_).symm
    rw [List.mem_append, closureL_mem hc hxy, closureL_mem hc hx, closureL_mem hc hy]
    constructor
    · rintro ⟨a, ha, h⟩
      rcases List.mem_append.1 ha with ha | ha
      · exact .inl ⟨a, ha, h⟩
      · exact .inr ⟨a, ha, h⟩
    · rintro (⟨a, ha, h⟩ | ⟨a, ha, h⟩)
      · exact ⟨a, List.mem_append_left _ ha, h⟩
      · exact ⟨a, List.mem_append_right _ ha, h⟩
end Go.Proofs.Ythpdflpkkiabhaa
