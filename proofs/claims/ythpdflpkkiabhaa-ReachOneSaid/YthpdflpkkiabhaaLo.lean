/-
  ReachOne: the walk. No condition.
-/
import Derived.Test.YthpdflpkkiabhaaXg
import Derived.Test.YthpdflpkkiabhaaOq
namespace Go.Proofs.Ythpdflpkkiabhaa
open Go.RowKit
attribute [local go_sem] onto_cell onto_frozen
set_option linter.unusedVariables false
theorem few_r (a : Option Addr) (n cap : Nat) (next : List (List Int)) (w : World) (h : RowsR w a n cap next) :
    Calls Try.prog 32 #[.slice a n cap] w fun e w' => e = .returned (.bool (fewB next)) ∧ Keeps Non w w' := by
  refine few_l a n cap next w h.rows.len ?_ (fun i => ?_) h.room h.nilCap
  · by_cases h0 : n = 0
    · exact .inl h0
    · obtain ⟨b, off, ha, hb, hc⟩ := h.rows.at (by omega)
      exact .inr ⟨b, off, ha, hb, fun i hi => by obtain ⟨ai, ci, h1, _⟩ := hc i hi; exact ⟨ai, ci, h1⟩⟩
  · by_cases hi : i < n
    · obtain ⟨b, off, ha, hb, hc⟩ := h.rows.at (by omega)
      obtain ⟨ai, ci, h1, h2⟩ := hc i hi
      exact h2.big
    · rw [List.getD_eq_getElem?_getD, List.getElem?_eq_none (by rw [h.rows.len]; omega)]
      simp
set_option maxHeartbeats 2000000 in
theorem law_one (a : Option Addr) (n cap : Nat) (next : List (List Int)) (st : Int) (w : World) (h : RowsR w a n cap next) :
    Calls Try.prog 7 #[.slice a n cap, .int .i64 st] w fun e w' => e = .returned (.bool true) ∧ Keeps Non w w' := by
  have HF := hide (few_r a n cap next w h)
  have HX := hide h.rows
  have hlen := h.rows.len
  by_cases hf : fewB next = true
  · have hi := fewB_iff.1 hf
    have HO : Hid (∀ w', Keeps Non w w' → Calls Try.prog 33 #[.slice a n cap, .int .i64 st] w' fun e w2 => e = .returned (.bool true) ∧ Keeps Non w' w2) := fun w' hk => one_l a n cap next st w' (HX.out.non hk) (by omega) hi.2
    rw [hf] at HF
    clear h hlen hf hi
    go_enter Try.func7, Try.ntmps7
    go_wp2_with fail
    refine HF.out.mono ?_
    rintro e w1 ⟨rfl, hk⟩
    have HK := hide hk
    have C1 := hide (HO.out w1 hk)
    clear hk
    go_wp2_with fail
    refine C1.out.mono ?_
    rintro e w2 ⟨rfl, hk⟩
    have HAw := hide (awake_l w2)
    replace HK := hide (HK.out.then hk)
    clear hk C1
    go_wp2_with fail
    refine HAw.out.mono ?_
    rintro e w3 ⟨rfl, hk⟩
    go_wp2_with fail
    go_ret
    exact ⟨rfl, HK.out.then hk⟩
  · have hff : fewB next = false := by simpa using hf
    rw [hff] at HF
    clear h hlen hf hff
    go_enter Try.func7, Try.ntmps7
    go_wp2_with fail
    refine HF.out.mono ?_
    rintro e w1 ⟨rfl, hk⟩
    have HK := hide hk
    have HAw := hide (awake_l w1)
    clear hk
    go_wp2_with fail
    refine HAw.out.mono ?_
    rintro e w3 ⟨rfl, hk⟩
    go_wp2_with fail
    go_ret
    exact ⟨rfl, HK.out.then hk⟩
end Go.Proofs.Ythpdflpkkiabhaa
