/-
  Layer 6's contracts over partitions of n elements. No condition.
-/
import Derived.Test.YtkcbahfmdokalaaPa
import Derived.Test.YtkcbahfmdokalaaT
import Derived.Test.YtkcbahfmdokalaaTw
import Derived.Test.YtkcbahfmdokalaaFo
namespace Go.Proofs.Ytkcbahfmdokalaa
open Go.RowKit
set_option linter.unusedVariables false
section
variable {n : Nat} {p q : List Int} {next : List (List Int)} {w : World} {a b : Option Addr} {cap cap2 m : Nat}
theorem new_pt {w' : World} {v : Value} {xs : List Int} (h : NewInts w w' v xs) (hl : xs.length = n) (hn : n ≤ 1024) : ∃ g, v = .slice (some ⟨g, 0, none⟩) n n ∧ Ints w' (some ⟨g, 0, none⟩) n xs ∧ Keeps Non w w' := by
  obtain ⟨g, h1, h2, h3, h4⟩ := h
  rw [hl] at h1
  have hI := ints_of_blk h3 (by omega)
  rw [hl] at hI
  exact ⟨g, h1, hI, h4⟩
theorem meet_c (h : Ints w a n p) (h2 : Ints w b n q) (hp : Pt n p) (hq : Pt n q) (hn : n ≤ 1024) :
    Calls Try.prog 30 #[.slice a n cap, .slice b n cap2] w fun e w' => ∃ g, e = .returned (.tuple #[.slice (some ⟨g, 0, none⟩) n n, .int .i64 0]) ∧ Ints w' (some ⟨g, 0, none⟩) n (meetL p q) ∧ Keeps Non w w' :=
  (meet_yes a b n cap n cap2 p q w h h2 (pt_good hp hn) (pt_good hq hn) (pt_bothE hp hq hn)).mono fun e w' ⟨v, h1, h2⟩ => by
    obtain ⟨g, rfl, h3, h4⟩ := new_pt h2 (meet_pt hp hq).len hn
    exact ⟨g, h1, h3, h4⟩
theorem join_c (h : Ints w a n p) (h2 : Ints w b n q) (hp : Pt n p) (hq : Pt n q) (hn : n ≤ 1024) :
    Calls Try.prog 31 #[.slice a n cap, .slice b n cap2] w fun e w' => ∃ g, e = .returned (.tuple #[.slice (some ⟨g, 0, none⟩) n n, .int .i64 0]) ∧ Ints w' (some ⟨g, 0, none⟩) n (joinL p q) ∧ Keeps Non w w' :=
  (join_yes a b n cap n cap2 p q w h h2 (pt_good hp hn) (pt_good hq hn) (pt_bothE hp hq hn)).mono fun e w' ⟨v, h1, h2⟩ => by
    obtain ⟨g, rfl, h3, h4⟩ := new_pt h2 (join_pt hp hq).len hn
    exact ⟨g, h1, h3, h4⟩
theorem finer_c (h : Ints w a n p) (h2 : Ints w b n q) (hp : Pt n p) (hq : Pt n q) (hn : n ≤ 1024) (v : Bool) (hv : decide (meetL p q = p) = v) :
    Calls Try.prog 32 #[.slice a n cap, .slice b n cap2] w fun e w' => e = .returned (.tuple #[.bool v, .int .i64 0]) ∧ Keeps Non w w' := by
  subst hv
  exact finer_yes a b n cap n cap2 p q w h h2 (pt_good hp hn) (pt_good hq hn) (pt_bothE hp hq hn)
theorem equal_c (h : Ints w a n p) (h2 : Ints w b m q) (v : Bool) (hv : decide (p = q) = v) :
    Calls Try.prog 19 #[.slice a n cap, .slice b m cap2] w fun e w' => e = .returned (.bool v) ∧ Keeps Non w w' := by
  subst hv
  exact equal_any a n cap p b m cap2 q w h h2
theorem count_c (h : Ints w a n p) (hp : Pt n p) (hn : n ≤ 1024) (c : Nat) (hc : cnt p = c) :
    Calls Try.prog 34 #[.slice a n cap] w fun e w' => e = .returned (.tuple #[.int .i64 c, .int .i64 0]) ∧ Keeps Non w w' := by
  subst hc
  have := countE_l a n cap p w h (pt_good hp hn)
  have e : countR p = ((cnt p : Int), 0) := if_pos (pt_right hp hn)
  rw [e] at this
  exact this
theorem right_c (h : Ints w a n p) (hp : Pt n p) (hn : n ≤ 1024) :
    Calls Try.prog 37 #[.slice a n cap] w fun e w' => e = .returned (.bool true) ∧ Keeps Non w w' :=
  right_at a n cap p true w h (pt_good hp hn) (pt_right hp hn)
theorem pt_wrongE (hp : Pt n p) (hl : NextOk n next) (hn : n ≤ 1024) : wrongE p next = 0 := wrongE_of (pt_right hp hn) (by rw [hp.len]; exact hl)
theorem refine_c (h : Ints w a n p) (h2 : Rows w b n next) (hp : Pt n p) (hl : NextOk n next) (hn : n ≤ 1024) :
    Calls Try.prog 35 #[.slice a n cap, .slice b n cap2] w fun e w' => ∃ g, e = .returned (.tuple #[.slice (some ⟨g, 0, none⟩) n n, .int .i64 0]) ∧ Ints w' (some ⟨g, 0, none⟩) n (refineL p next) ∧ Keeps Non w w' :=
  (refine_yes a b n cap n cap2 p next w h h2 (pt_good hp hn) (pt_wrongE hp hl hn)).mono fun e w' ⟨v, h1, h2⟩ => by
    obtain ⟨g, rfl, h3, h4⟩ := new_pt h2 (refine_pt hp hl.1).len hn
    exact ⟨g, h1, h3, h4⟩
theorem stable_c (h : Ints w a n p) (h2 : Rows w b n next) (hp : Pt n p) (hl : NextOk n next) (hn : n ≤ 1024) (v : Bool) (hv : decide (refineL p next = p) = v) :
    Calls Try.prog 29 #[.slice a n cap, .slice b n cap2] w fun e w' => e = .returned (.tuple #[.bool v, .int .i64 0]) ∧ Keeps Non w w' := by
  subst hv
  exact stable_yes a b n cap n cap2 p next w h h2 (pt_good hp hn) (pt_wrongE hp hl hn)
theorem coarsest_c (h : Ints w a n p) (h2 : Rows w b n next) (hp : Pt n p) (hl : NextOk n next) (hn : n ≤ 1024) (c : List Int) (k : Nat) (hc : coarseL p next = (c, k)) :
    Calls Try.prog 27 #[.slice a n cap, .slice b n cap2] w fun e w' => ∃ g d, e = .returned (.tuple #[.slice g n d, .int .i64 k, .int .i64 0]) ∧ Ints w' g n c ∧ Keeps Non w w' :=
  (coarsest_yes a b n cap n cap2 p next w h h2 (pt_good hp hn) (pt_wrongE hp hl hn)).mono fun e w' ⟨v, h1, h2⟩ => by
    obtain ⟨g, d, rfl, h3, h4⟩ := h2
    have hl2 := (coarseL_ok hp hl).pt.len
    rw [hc] at h1 h3 hl2
    simp only at h1 h3 hl2
    rw [hl2] at h1 h3
    exact ⟨g, d, h1, h3, h4⟩
theorem quotient_c (h : Ints w a n p) (h2 : Rows w b n next) (hp : Pt n p) (hl : NextOk n next) (hn : n ≤ 1024) (hs : refineL p next = p) (c : Nat) (hc : cnt p = c) :
    Calls Try.prog 28 #[.slice a n cap, .slice b n cap2] w fun e w' => ∃ g, e = .returned (.tuple #[.slice (some ⟨g, 0, none⟩) c c, .int .i64 0]) ∧ Rows w' (some ⟨g, 0, none⟩) c (quotL p next) ∧ Keeps Non w w' :=
  (quotient_yes a b n cap n cap2 p next w h h2 (pt_good hp hn) (pt_wrongE hp hl hn) hs).mono fun e w' ⟨v, h1, h2⟩ => by
    obtain ⟨B, S, rfl, _, h3, h4⟩ := h2
    have hql : (quotL p next).length = c := by rw [quot_length, hc]
    have hcn := cnt_le_length p
    rw [hp.len] at hcn
    have hR := h3.rows (by omega) (fun i => by
      by_cases hi : i < (quotL p next).length
      · have hm : (quotL p next).getD i [] ∈ quotL p next := getD_mem hi
        obtain ⟨j, hj⟩ : ∃ j, j < n ∧ (p.getD j 0).toNat = i := by
          have h5 := numb_onto p i (by rw [hql, ← hc] at hi; exact hi)
          rw [show numb [] p = p from hp.isP] at h5
          obtain ⟨j, hj, he⟩ := List.mem_iff_getElem.1 h5
          rw [hp.len] at hj
          exact ⟨j, hj, by rw [getD_num (by rw [hp.len]; exact hj), he]; rfl⟩
        rw [← hj.2, quot_row hp hl.1 hs hj.1, rowOf_length]
        have := (hl.2 _ (getD_mem (d := []) (by rw [hl.1]; exact hj.1))).1
        omega
      · rw [List.getD_eq_getElem?_getD, List.getElem?_eq_none (by omega)]
        simp)
    rw [hql] at h1 hR
    exact ⟨B, h1, hR, h4⟩
end
end Go.Proofs.Ytkcbahfmdokalaa
