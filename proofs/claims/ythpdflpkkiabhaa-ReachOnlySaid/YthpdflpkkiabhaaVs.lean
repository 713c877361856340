/-
  slices.Values, Sorted, Compact, Equal one behind the other, each at any world that keeps V. No condition.
-/
import Derived.Test.YthpdflpkkiabhaaCl
import Derived.Test.YthpdflpkkiabhaaCp
namespace Go.Proofs.Ythpdflpkkiabhaa
open Go.RowKit
set_option linter.unusedVariables false
theorem val_q (V w : World) (hk : Keeps Non V w) (a : Option Addr) (n c : Nat) : Calls Try.prog 24 #[.slice a n c] w fun e w' => ∃ b u, w' = onto V u ∧ e = .returned (.func (.func 50) #[] #[.pointer (some ⟨b, 0, none⟩)]) ∧ Hid (Blk w' b [.slice a n c] 25) :=
  (values_any a n c w).mono fun e w' ⟨he, hw⟩ => by
    subst hw
    exact ⟨w.heap.size, _, (onto_of (hk.alloc _)).symm, he, Blk.new w [.slice a n c] 25⟩
theorem sor_q (V w : World) (hk : Keeps Non V w) (a : Option Addr) (n c b : Nat) (xs : List Int) (h : Ints V a n xs) (hn : n ≤ 100000) (hb : Blk w b [.slice a n c] 25) :
    Calls Try.prog 23 #[.func (.func 50) #[] #[.pointer (some ⟨b, 0, none⟩)]] w fun e w' => ∃ a' c' u, w' = onto V u ∧ e = .returned (.slice a' n c') ∧ Hid (w'.ownsRow V.heap.size 3 1 (.slice a' n c') n ((sortL xs).map (Value.int .i64))) :=
  (sorted_l a n c b xs w (h.non hk) hn hb).mono fun e w' ⟨v, he, hO⟩ => by
    obtain ⟨a9, c9, rfl⟩ := owns_slice hO.1
    have hl : (sortL xs).length = n := by rw [sortL_length, h.len]
    have ho := hO.1
    rw [hl] at ho he
    exact ⟨a9, c9, w', (onto_of (hk.then hO.2)).symm, he, owns_base ho hk.size⟩
theorem com_q (V w : World) (hk : Keeps Non V w) (a : Option Addr) (n c : Nat) (xs : List Int) (hl : xs.length = n) (h : w.ownsRow V.heap.size 3 1 (.slice a n c) n (xs.map (Value.int .i64))) (hn : n ≤ 100000) :
    Calls Try.prog 22 #[.slice a n c] w fun e w' => ∃ a' c' u, w' = onto V u ∧ e = .returned (.slice a' (Lib.compact xs).length c') ∧ Hid (Ints w' a' (Lib.compact xs).length (Lib.compact xs)) := by
  subst hl
  refine (compact_own V.heap.size _ xs w h (by omega)).mono fun e w' ⟨a', c', he, hI, hk2⟩ => ?_
  exact ⟨a', c', w', (onto_of (hk.trans hk2 (fun i hi e => by have := (owns_here h i e).1; omega))).symm, he, hI⟩
theorem eq_q (V w : World) (hk : Keeps Non V w) (a b : Option Addr) (n m c d : Nat) (xs ys : List Int) (h1 : Ints w a n xs) (h2 : Ints w b m ys) :
    Calls Try.prog 25 #[.slice a n c, .slice b m d] w fun e w' => ∃ u, w' = onto V u ∧ e = .returned (.bool (decide (xs = ys))) :=
  (equal_any a n c xs b m d ys w h1 h2).mono fun e w' ⟨he, hk2⟩ => ⟨w', (onto_of (hk.then hk2)).symm, he⟩
end Go.Proofs.Ythpdflpkkiabhaa
