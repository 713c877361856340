/-
  Walks over layer 6's statements: two. No condition.
-/
import Derived.Test.YtkcbahfmdokalaaMk
import Derived.Outline
namespace Go.Proofs.Ytkcbahfmdokalaa
open Go.RowKit
attribute [local go_sem] onto_cell onto_frozen
set_option linter.unusedVariables false
/-- Bytes that came in: with the room behind them. -/
structure BySl (w : World) (a : Option Addr) (n cap : Nat) (xs : List Int) : Prop where
  by' : Byts w a n xs
  room : n ≤ cap ∧ cap ≤ 9223372036854775807
  nil : a = none → cap = 0
theorem BySl.made {w w' : World} {a : Option Addr} {n cap m : Nat} {xs : List Int} (h : BySl w a n cap xs) (hm : m ≤ n) (k : Keeps Non w w') :
    Calls Try.prog 25 #[.slice a m cap] w' fun e w2 => ∃ v, e = .returned v ∧ GotInts w' w2 v (madeL (xs.take m)) :=
  made_l a m cap (xs.take m) w' ((h.by'.pre hm).non k) ⟨Nat.le_trans hm h.room.1, h.room.2⟩ h.nil
/-- What two returns. -/
def TwoP (w : World) (m : Nat) (xs ys : List Int) (e : Ending) (w' : World) : Prop := ∃ a1 c1 a2 c2, e = .returned (.tuple #[.slice a1 m c1, .slice a2 m c2]) ∧ Ints w' a1 m (madeL (xs.take m)) ∧ Ints w' a2 m (madeL (ys.take m)) ∧ Keeps Non w w'
theorem BySl.made' {w w' : World} {a : Option Addr} {n cap m : Nat} {xs : List Int} (h : BySl w a n cap xs) (hm : m ≤ n) (h30 : m ≤ 30) (k : Keeps Non w w') :
    Calls Try.prog 25 #[.slice a m cap] w' fun e w2 => ∃ a1 c1, e = .returned (.slice a1 m c1) ∧ Ints w2 a1 m (madeL (xs.take m)) ∧ Keeps Non w' w2 := by
  refine (h.made hm k).mono ?_
  rintro e w2 ⟨v, rfl, a1, c1, rfl, hI, hk⟩
  have hl : (madeL (xs.take m)).length = m := by rw [madeL_length, List.length_take, h.by'.len]; omega
  rw [hl] at hI ⊢
  exact ⟨a1, c1, rfl, hI, hk⟩
set_option maxRecDepth 100000 in
set_option maxHeartbeats 8000000 in
theorem two_a (a b : Option Addr) (n cap n2 cap2 : Nat) (xs ys : List Int) (w : World) (h : BySl w a n cap xs) (h2 : BySl w b n2 cap2 ys) (q1 : n2 < n) (q2 : n2 ≤ 30) :
    Calls Try.prog 33 #[.slice a n cap, .slice b n2 cap2] w (TwoP w n2 xs ys) := by
  obtain ⟨r1, r2⟩ := h.room
  obtain ⟨s1, s2⟩ := h2.room
  have HC1 : Hid (∀ w', Keeps Non w w' → Calls Try.prog 25 #[.slice a n2 cap] w' fun e w2 => ∃ a1 c1, e = .returned (.slice a1 n2 c1) ∧ Ints w2 a1 n2 (madeL (xs.take n2)) ∧ Keeps Non w' w2) := fun w' hk => h.made' (by omega) (by omega) hk
  have HC2 : Hid (∀ w', Keeps Non w w' → Calls Try.prog 25 #[.slice b n2 cap2] w' fun e w2 => ∃ a1 c1, e = .returned (.slice a1 n2 c1) ∧ Ints w2 a1 n2 (madeL (ys.take n2)) ∧ Keeps Non w' w2) := fun w' hk => h2.made' (by omega) (by omega) hk
  have HKd := hide (Keeps.refl Non w).drew
  have hm0 : (0 : Int) ≤ ((n2 : Nat) : Int) := by omega
  have t1 : n2 ≤ cap := by omega
  have t2 : n2 ≤ cap2 := by omega
  clear h h2
  go_enter Try.func33, Try.ntmps33
  go_wp2_with fail
  go_region_with (first | ((with_reducible refine (HC1.out _ (by first | exact HKd.out | exact HKd.out.then hk2)).mono ?_); rintro e w1 ⟨a1, c1, rfl, hI1, hk1⟩) | ((with_reducible refine (HC2.out _ (by first | exact HKd.out | exact HKd.out.then hk1)).mono ?_); rintro e w2 ⟨a2, c2, rfl, hI2, hk2⟩))
  all_goals
    go_wp2_with fail
    go_ret2
    first | exact ⟨a1, c1, a2, c2, rfl, hI1.non hk2, hI2, HKd.out.then (hk1.then hk2)⟩ | exact ⟨a1, c1, a2, c2, rfl, hI1, hI2.non hk1, HKd.out.then (hk2.then hk1)⟩
set_option maxRecDepth 100000 in
set_option maxHeartbeats 8000000 in
theorem two_b (a b : Option Addr) (n cap n2 cap2 : Nat) (xs ys : List Int) (w : World) (h : BySl w a n cap xs) (h2 : BySl w b n2 cap2 ys) (q1 : ¬ n2 < n) (q2 : n ≤ 30) :
    Calls Try.prog 33 #[.slice a n cap, .slice b n2 cap2] w (TwoP w n xs ys) := by
  obtain ⟨r1, r2⟩ := h.room
  obtain ⟨s1, s2⟩ := h2.room
  have HC1 : Hid (∀ w', Keeps Non w w' → Calls Try.prog 25 #[.slice a n cap] w' fun e w2 => ∃ a1 c1, e = .returned (.slice a1 n c1) ∧ Ints w2 a1 n (madeL (xs.take n)) ∧ Keeps Non w' w2) := fun w' hk => h.made' (by omega) (by omega) hk
  have HC2 : Hid (∀ w', Keeps Non w w' → Calls Try.prog 25 #[.slice b n cap2] w' fun e w2 => ∃ a1 c1, e = .returned (.slice a1 n c1) ∧ Ints w2 a1 n (madeL (ys.take n)) ∧ Keeps Non w' w2) := fun w' hk => h2.made' (by omega) (by omega) hk
  have HKd := hide (Keeps.refl Non w).drew
  have hm0 : (0 : Int) ≤ ((n : Nat) : Int) := by omega
  have t1 : n ≤ cap := by omega
  have t2 : n ≤ cap2 := by omega
  clear h h2
  go_enter Try.func33, Try.ntmps33
  go_wp2_with fail
  go_region_with (first | ((with_reducible refine (HC1.out _ (by first | exact HKd.out | exact HKd.out.then hk2)).mono ?_); rintro e w1 ⟨a1, c1, rfl, hI1, hk1⟩) | ((with_reducible refine (HC2.out _ (by first | exact HKd.out | exact HKd.out.then hk1)).mono ?_); rintro e w2 ⟨a2, c2, rfl, hI2, hk2⟩))
  all_goals
    go_wp2_with fail
    go_ret2
    first | exact ⟨a1, c1, a2, c2, rfl, hI1.non hk2, hI2, HKd.out.then (hk1.then hk2)⟩ | exact ⟨a1, c1, a2, c2, rfl, hI1, hI2.non hk1, HKd.out.then (hk2.then hk1)⟩
set_option maxRecDepth 100000 in
set_option maxHeartbeats 8000000 in
theorem two_c (a b : Option Addr) (n cap n2 cap2 : Nat) (xs ys : List Int) (w : World) (h : BySl w a n cap xs) (h2 : BySl w b n2 cap2 ys) (q1 : n2 < n) (q2 : ¬ n2 ≤ 30) :
    Calls Try.prog 33 #[.slice a n cap, .slice b n2 cap2] w (TwoP w 30 xs ys) := by
  obtain ⟨r1, r2⟩ := h.room
  obtain ⟨s1, s2⟩ := h2.room
  have HC1 : Hid (∀ w', Keeps Non w w' → Calls Try.prog 25 #[.slice a 30 cap] w' fun e w2 => ∃ a1 c1, e = .returned (.slice a1 30 c1) ∧ Ints w2 a1 30 (madeL (xs.take 30)) ∧ Keeps Non w' w2) := fun w' hk => h.made' (by omega) (by omega) hk
  have HC2 : Hid (∀ w', Keeps Non w w' → Calls Try.prog 25 #[.slice b 30 cap2] w' fun e w2 => ∃ a1 c1, e = .returned (.slice a1 30 c1) ∧ Ints w2 a1 30 (madeL (ys.take 30)) ∧ Keeps Non w' w2) := fun w' hk => h2.made' (by omega) (by omega) hk
  have HKd := hide (Keeps.refl Non w).drew
  have hm0 : (0 : Int) ≤ ((30 : Nat) : Int) := by omega
  have t1 : 30 ≤ cap := by omega
  have t2 : 30 ≤ cap2 := by omega
  clear h h2
  go_enter Try.func33, Try.ntmps33
  go_wp2_with fail
  go_region_with (first | ((with_reducible refine (HC1.out _ (by first | exact HKd.out | exact HKd.out.then hk2)).mono ?_); rintro e w1 ⟨a1, c1, rfl, hI1, hk1⟩) | ((with_reducible refine (HC2.out _ (by first | exact HKd.out | exact HKd.out.then hk1)).mono ?_); rintro e w2 ⟨a2, c2, rfl, hI2, hk2⟩))
  all_goals
    go_wp2_with fail
    go_ret2
    first | exact ⟨a1, c1, a2, c2, rfl, hI1.non hk2, hI2, HKd.out.then (hk1.then hk2)⟩ | exact ⟨a1, c1, a2, c2, rfl, hI1, hI2.non hk1, HKd.out.then (hk2.then hk1)⟩
set_option maxRecDepth 100000 in
set_option maxHeartbeats 8000000 in
theorem two_d (a b : Option Addr) (n cap n2 cap2 : Nat) (xs ys : List Int) (w : World) (h : BySl w a n cap xs) (h2 : BySl w b n2 cap2 ys) (q1 : ¬ n2 < n) (q2 : ¬ n ≤ 30) :
    Calls Try.prog 33 #[.slice a n cap, .slice b n2 cap2] w (TwoP w 30 xs ys) := by
  obtain ⟨r1, r2⟩ := h.room
  obtain ⟨s1, s2⟩ := h2.room
  have HC1 : Hid (∀ w', Keeps Non w w' → Calls Try.prog 25 #[.slice a 30 cap] w' fun e w2 => ∃ a1 c1, e = .returned (.slice a1 30 c1) ∧ Ints w2 a1 30 (madeL (xs.take 30)) ∧ Keeps Non w' w2) := fun w' hk => h.made' (by omega) (by omega) hk
  have HC2 : Hid (∀ w', Keeps Non w w' → Calls Try.prog 25 #[.slice b 30 cap2] w' fun e w2 => ∃ a1 c1, e = .returned (.slice a1 30 c1) ∧ Ints w2 a1 30 (madeL (ys.take 30)) ∧ Keeps Non w' w2) := fun w' hk => h2.made' (by omega) (by omega) hk
  have HKd := hide (Keeps.refl Non w).drew
  have hm0 : (0 : Int) ≤ ((30 : Nat) : Int) := by omega
  have t1 : 30 ≤ cap := by omega
  have t2 : 30 ≤ cap2 := by omega
  clear h h2
  go_enter Try.func33, Try.ntmps33
  go_wp2_with fail
  go_region_with (first | ((with_reducible refine (HC1.out _ (by first | exact HKd.out | exact HKd.out.then hk2)).mono ?_); rintro e w1 ⟨a1, c1, rfl, hI1, hk1⟩) | ((with_reducible refine (HC2.out _ (by first | exact HKd.out | exact HKd.out.then hk1)).mono ?_); rintro e w2 ⟨a2, c2, rfl, hI2, hk2⟩))
  all_goals
    go_wp2_with fail
    go_ret2
    first | exact ⟨a1, c1, a2, c2, rfl, hI1.non hk2, hI2, HKd.out.then (hk1.then hk2)⟩ | exact ⟨a1, c1, a2, c2, rfl, hI1, hI2.non hk1, HKd.out.then (hk2.then hk1)⟩
theorem two_l (a b : Option Addr) (n cap n2 cap2 : Nat) (xs ys : List Int) (w : World) (h : BySl w a n cap xs) (h2 : BySl w b n2 cap2 ys) :
    Calls Try.prog 33 #[.slice a n cap, .slice b n2 cap2] w (TwoP w (min (min n n2) 30) xs ys) := by
  by_cases q1 : n2 < n
  · by_cases q2 : n2 ≤ 30
    · rw [show min (min n n2) 30 = n2 by omega]
      exact two_a a b n cap n2 cap2 xs ys w h h2 q1 q2
    · rw [show min (min n n2) 30 = 30 by omega]
      exact two_c a b n cap n2 cap2 xs ys w h h2 q1 q2
  · by_cases q2 : n ≤ 30
    · rw [show min (min n n2) 30 = n by omega]
      exact two_b a b n cap n2 cap2 xs ys w h h2 q1 q2
    · rw [show min (min n n2) 30 = 30 by omega]
      exact two_d a b n cap n2 cap2 xs ys w h h2 q1 q2
end Go.Proofs.Ytkcbahfmdokalaa
