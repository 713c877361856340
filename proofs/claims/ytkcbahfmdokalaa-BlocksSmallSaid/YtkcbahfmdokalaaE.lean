/-
  Walks over layer 6: both, count, Of. No condition.
-/
import Derived.Test.YtkcbahfmdokalaaB
import Derived.Test.YtkcbahfmdokalaaC
import Derived.Test.YtkcbahfmdokalaaD
namespace Go.Proofs.Ytkcbahfmdokalaa
open Go.RowKit
attribute [local go_sem] onto_cell onto_frozen
set_option linter.unusedVariables false
theorem right_at (a : Option Addr) (n cap : Nat) (xs : List Int) (v : Bool) (w : World) (h : Ints w a n xs) (hwf : ∀ x ∈ xs, (Lit.int .i64 x).wf = true) (hv : rightB xs = v) :
    Calls Try.prog 37 #[.slice a n cap] w fun e w' => e = .returned (.bool v) ∧ Keeps Non w w' := by
  subst hv
  exact right_l a n cap xs w h hwf
/-- What is wrong with two lists. -/
def bothE (xs ys : List Int) : Int := if rightB xs = true ∧ rightB ys = true then (if xs.length = ys.length then 0 else 2) else 60
theorem both_l (a b : Option Addr) (n cap m cap2 : Nat) (xs ys : List Int) (w : World) (h : Ints w a n xs) (h2 : Ints w b m ys) (hwf : ∀ x ∈ xs, (Lit.int .i64 x).wf = true) (hwf2 : ∀ x ∈ ys, (Lit.int .i64 x).wf = true) :
    Calls Try.prog 56 #[.slice a n cap, .slice b m cap2] w fun e w' => e = .returned (.int .i64 (bothE xs ys)) ∧ Keeps Non w w' := by
  have hl := h.len
  have hl2 := h2.len
  obtain ⟨p, hp⟩ : ∃ p, rightB xs = p := ⟨_, rfl⟩
  obtain ⟨q, hq⟩ : ∃ q, rightB ys = q := ⟨_, rfl⟩
  have HE : Hid (bothE xs ys = if p = true ∧ q = true then (if n = m then 0 else 2) else 60) := by
    show _ = _
    unfold bothE
    rw [hp, hq, hl, hl2]
  have HP := hide (right_at a n cap xs p w h hwf hp)
  have HQ : Hid (∀ w', Keeps Non w w' → Calls Try.prog 37 #[.slice b m cap2] w' fun e w2 => e = .returned (.bool q) ∧ Keeps Non w' w2) := fun w' hk => right_at b m cap2 ys q w' (h2.non hk) hwf2 hq
  clear h h2 hwf hwf2 hl hl2 hp hq
  cases p with
  | false =>
    go_enter Try.func56, Try.ntmps56
    go_wp2_with fail
    refine HP.out.mono ?_
    rintro e w2 ⟨rfl, hk⟩
    go_wp2_with fail
    go_ret
    refine ⟨?_, hk⟩
    rw [HE.out]
    rfl
  | true =>
    cases q with
    | false =>
      go_enter Try.func56, Try.ntmps56
      go_wp2_with fail
      refine HP.out.mono ?_
      rintro e w2 ⟨rfl, hk⟩
      go_wp2_with fail
      refine (HQ.out w2 hk).mono ?_
      rintro e w3 ⟨rfl, hk3⟩
      go_wp2_with fail
      go_ret
      refine ⟨?_, hk.then hk3⟩
      rw [HE.out]
      rfl
    | true =>
      by_cases hnm : n = m
      · have HS : Hid (n = m) := hnm
        have e1 : ((n : Int) != (m : Int)) = false := by simp [hnm]
        have e2 : (n : Int) = (m : Int) := by omega
        clear hnm
        go_enter Try.func56, Try.ntmps56
        go_wp2_with fail
        refine HP.out.mono ?_
        rintro e w2 ⟨rfl, hk⟩
        go_wp2_with fail
        refine (HQ.out w2 hk).mono ?_
        rintro e w3 ⟨rfl, hk3⟩
        go_wp2_with fail
        go_ret
        refine ⟨?_, hk.then hk3⟩
        rw [HE.out, if_pos ⟨trivial, trivial⟩, if_pos HS.out]
        rfl
      · have HS : Hid (¬ n = m) := hnm
        have e1 : ((n : Int) != (m : Int)) = true := by simp; omega
        clear hnm
        go_enter Try.func56, Try.ntmps56
        go_wp2_with fail
        refine HP.out.mono ?_
        rintro e w2 ⟨rfl, hk⟩
        go_wp2_with fail
        refine (HQ.out w2 hk).mono ?_
        rintro e w3 ⟨rfl, hk3⟩
        go_wp2_with fail
        go_ret
        refine ⟨?_, hk.then hk3⟩
        rw [HE.out, if_pos ⟨trivial, trivial⟩, if_neg HS.out]
        rfl
theorem ofStr_l (a : Option Addr) (n cap : Nat) (xs : List ByteArray) (w : World) (h : StrsIn w a n xs) (hn : n ≤ 1024) (hwf : ∀ x ∈ xs, x.size ≤ maxLen) :
    Calls Try.prog 18 #[.slice a n cap] w fun e w' => ∃ b, e = .returned (.tuple #[.slice (some ⟨b, 0, none⟩) n n, .int .i64 0]) ∧ w.heap.size ≤ b ∧ Blk w' b ((numb [] (xs.map tl)).map (Value.int .i64)) 3 ∧ Keeps Non w w' := by
  have HC := hide (numbered_str a n cap xs w h (by omega) hwf)
  have e1 : ¬ 1024 < (n : Int) := by omega
  clear h hwf
  go_enter Try.func18, Try.ntmps18
  go_wp2_with fail
  refine HC.out.mono ?_
  rintro e w2 ⟨b, rfl, hb, hB, hk⟩
  have HB := hide hB
  clear hB
  go_wp2_with fail
  go_ret2
  exact ⟨b, rfl, hb, HB.out, hk⟩
end Go.Proofs.Ytkcbahfmdokalaa
