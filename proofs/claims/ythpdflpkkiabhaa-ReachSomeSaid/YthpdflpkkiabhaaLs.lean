/-
  ReachSome: the walk. No condition.
-/
import Derived.Test.YthpdflpkkiabhaaXk
import Derived.Test.YthpdflpkkiabhaaXu
import Derived.Test.YthpdflpkkiabhaaAw
namespace Go.Proofs.Ythpdflpkkiabhaa
open Go.RowKit
attribute [local go_sem] onto_cell onto_frozen
set_option linter.unusedVariables false
set_option maxHeartbeats 2000000 in
theorem law_some (a : Option Addr) (n cap : Nat) (next : List (List Int)) (b : Option Addr) (m cap2 : Nat) (l : List Int) (w : World) (h : RowsR w a n cap next) (h2 : m ≤ 40 → Ints w b m l) (hroom : m ≤ cap2 ∧ cap2 ≤ 9223372036854775807) :
    Calls Try.prog 8 #[.slice a n cap, .slice b m cap2] w fun e w' => e = .returned (.bool true) ∧ Keeps Non w w' := by
  have HF := hide (few_r a n cap next w h)
  have HX := hide h.rows
  have hlen := h.rows.len
  have HY := hide h2
  by_cases hf : fewB next = true
  · have hi := fewB_iff.1 hf
    rw [hf] at HF
    by_cases hm : m ≤ 40
    · have HO : Hid (∀ w', Keeps Non w w' → Calls Try.prog 34 #[.slice a n cap, .slice b m cap2] w' fun e w2 => e = .returned (.bool true) ∧ Keeps Non w' w2) := fun w' hk => some_l a b n cap m cap2 next l w' (HX.out.non hk) ((HY.out hm).non hk) (by omega) hi.2 hm hroom.1
      have g1 : ¬ (40 : Int) < (m : Int) := by omega
      have g2 : ¬ 40 < m := by omega
      have g3 : decide ((40 : Int) < (m : Int)) = false := decide_eq_false g1
      have g4 : decide (40 < m) = false := decide_eq_false g2
      clear h h2 hlen hf hi hm
      go_enter Try.func8, Try.ntmps8
      go_wp2_with fail
      refine HF.out.mono ?_
      rintro e w1 ⟨rfl, hk⟩
      have HK := hide hk
      have C1 := hide (HO.out w1 hk)
      clear hk
      go_wp2_with fail
      refine C1.out.mono ?_
      rintro e w2 ⟨rfl, hk⟩
      have HAw := hide (awake_l w2)
      replace HK := hide (HK.out.then hk)
      clear hk C1
      go_wp2_with fail
      refine HAw.out.mono ?_
      rintro e w3 ⟨rfl, hk⟩
      go_wp2_with fail
      go_ret
      exact ⟨rfl, HK.out.then hk⟩
    · have g1 : (40 : Int) < (m : Int) := by omega
      have g2 : 40 < m := by omega
      have g3 : decide ((40 : Int) < (m : Int)) = true := decide_eq_true g1
      have g4 : decide (40 < m) = true := decide_eq_true g2
      clear h h2 hlen hf hi hm
      go_enter Try.func8, Try.ntmps8
      go_wp2_with fail
      refine HF.out.mono ?_
      rintro e w1 ⟨rfl, hk⟩
      have HK := hide hk
      have HAw := hide (awake_l w1)
      clear hk
      go_wp2_with fail
      refine HAw.out.mono ?_
      rintro e w3 ⟨rfl, hk⟩
      go_wp2_with fail
      go_ret
      exact ⟨rfl, HK.out.then hk⟩
  · have hff : fewB next = false := by simpa using hf
    rw [hff] at HF
    clear h h2 hlen hf hff
    go_enter Try.func8, Try.ntmps8
    go_wp2_with fail
    refine HF.out.mono ?_
    rintro e w1 ⟨rfl, hk⟩
    have HK := hide hk
    have HAw := hide (awake_l w1)
    clear hk
    go_wp2_with fail
    refine HAw.out.mono ?_
    rintro e w3 ⟨rfl, hk⟩
    go_wp2_with fail
    go_ret
    exact ⟨rfl, HK.out.then hk⟩
end Go.Proofs.Ythpdflpkkiabhaa
