/-
  What came in: numbers, strings and lists of lists, off the row's own reading. Plain facts; conditions: none.
-/
import Derived.Test.YtkcbahfmdokalaaS
import Derived.Test.YtkcbahfmdokalaaC
import Derived.Deep.Slices
import Derived.SliceStrings
import Derived.ProofKit
import Derived.OpenShut
namespace Go.Proofs.Ytkcbahfmdokalaa
open Go.ChangeShapes Go.WideShapes Go.ChangeAt Go.RowKit Go.Deep
theorem exists_list {α : Type} (d : α) (P : Nat → α → Prop) : ∀ n, (∀ i, i < n → ∃ x, P i x) → ∃ l : List α, l.length = n ∧ ∀ i, i < n → P i (l.getD i d)
  | 0, _ => ⟨[], rfl, fun i hi => by omega⟩
  | n + 1, h => by
    obtain ⟨l, hl, hp⟩ := exists_list d P n (fun i hi => h i (by omega))
    obtain ⟨x, hx⟩ := h n (by omega)
    refine ⟨l ++ [x], by simp [hl], fun i hi => ?_⟩
    rcases Nat.lt_succ_iff_lt_or_eq.1 hi with h1 | rfl
    · rw [List.getD_eq_getElem?_getD, List.getElem?_append_left (by omega), ← List.getD_eq_getElem?_getD]
      exact hp i h1
    · rw [List.getD_eq_getElem?_getD, List.getElem?_append_right (by omega), hl]
      simpa using hx
/-- Numbers that came in. -/
structure RawI (w : World) (a : Option Addr) (n : Nat) (xs : List Int) : Prop where
  len : xs.length = n
  lim : n ≤ 9223372036854775807
  cell : n = 0 ∨ ∃ b off, a = some ⟨b, off, none⟩ ∧ b < w.heap.size ∧ ∀ i, i < n → w.cell? ⟨b, off + i, none⟩ = some (.int .i64 (xs.getD i 0))
  good : Good xs
theorem RawI.ints {w : World} {a : Option Addr} {n : Nat} {xs : List Int} (h : RawI w a n xs) (hn : n ≤ 17592186044416) : Ints w a n xs := ⟨h.len, hn, h.cell⟩
theorem rawI_of_row {w : World} {a : Option Addr} {len cap : Nat} {zs : List Int} (h : IsRow .i64 w a len cap zs) : RawI w a len (zs.take len) :=
  ⟨h.cells.1, by have := h.room; omega, h.cells.2.1, h.cells.2.2⟩
/-- Strings that came in. -/
structure RawS (w : World) (a : Option Addr) (n : Nat) (xs : List ByteArray) : Prop where
  len : xs.length = n
  lim : n ≤ 9223372036854775807
  cell : n = 0 ∨ ∃ b off, a = some ⟨b, off, none⟩ ∧ b < w.heap.size ∧ ∀ i, i < n → w.cell? ⟨b, off + i, none⟩ = some (.string (xs.getD i ByteArray.empty))
  wf : ∀ x ∈ xs, x.size ≤ maxLen
theorem RawS.strs {w : World} {a : Option Addr} {n : Nat} {xs : List ByteArray} (h : RawS w a n xs) (hn : n ≤ 17592186044416) : StrsIn w a n xs := ⟨h.len, hn, h.cell⟩
/-- Lists of numbers that came in. -/
structure RowsU (w : World) (a : Option Addr) (n : Nat) (xss : List (List Int)) : Prop where
  len : xss.length = n
  lim : n ≤ 9223372036854775807
  cell : n = 0 ∨ ∃ b off, a = some ⟨b, off, none⟩ ∧ b < w.heap.size ∧ ∀ i, i < n → ∃ ai ci, w.cell? ⟨b, off + i, none⟩ = some (.slice ai (xss.getD i []).length ci) ∧ RawI w ai (xss.getD i []).length (xss.getD i [])
theorem RowsU.rows {w : World} {a : Option Addr} {n : Nat} {xss : List (List Int)} (h : RowsU w a n xss) (hn : n ≤ 17592186044416) (hl : ∀ i, (xss.getD i []).length ≤ 17592186044416) : Rows w a n xss :=
  ⟨h.len, hn, h.cell.imp id fun ⟨b, off, ha, hb, hc⟩ => ⟨b, off, ha, hb, fun i hi => by
    obtain ⟨ai, ci, h1, h2⟩ := hc i hi
    exact ⟨ai, ci, h1, h2.ints (hl i)⟩⟩⟩
theorem RowsU.g {w : World} {a : Option Addr} {n : Nat} {xss : List (List Int)} (h : RowsU w a n xss) : RowsG (fun _ _ l => l.length ≤ 9223372036854775807) w a n xss :=
  ⟨h.len, h.lim, h.cell.imp id fun ⟨b, off, ha, hb, hc⟩ => ⟨b, off, ha, hb, fun i hi => by
    obtain ⟨ai, ci, h1, h2⟩ := hc i hi
    exact ⟨ai, ci, h1, h2.lim⟩⟩⟩
theorem RowsU.good {w : World} {a : Option Addr} {n : Nat} {xss : List (List Int)} (h : RowsU w a n xss) : ∀ l ∈ xss, Good l := by
  intro l hl
  obtain ⟨i, hi, rfl⟩ := List.mem_iff_getElem.1 hl
  rw [h.len] at hi
  obtain ⟨b, off, _, _, hc⟩ := h.cell.resolve_left (by omega)
  obtain ⟨ai, ci, h1, h2⟩ := hc i hi
  rw [getD_numL (by rw [h.len]; exact hi)] at h2
  exact h2.good
section
variable {H : Type} {enc : TypeId × Value → H} {w : World} {base : Nat} {spare : Nat → Bool} {held : Bool}
theorem cells_at {x : Addr} {len : Nat} {f : Nat → Value} (h : ∀ i, i < len → w.cell? (x.add i) = some (f i)) : len = 0 ∨ ∃ b off, some x = some ⟨b, off, none⟩ ∧ b < w.heap.size ∧ ∀ i, i < len → w.cell? ⟨b, off + i, none⟩ = some (f i) := by
  by_cases hl : len = 0
  · exact .inl hl
  · right
    have h0 := h 0 (by omega)
    have e0 : x.add 0 = x := by simp [Addr.add]
    rw [e0] at h0
    obtain ⟨hs, hb⟩ := cell_spot h0
    obtain ⟨b, off, spot⟩ := x
    simp only at hs hb
    subst hs
    refine ⟨b, off, rfl, hb, fun i hi => ?_⟩
    have := h i hi
    rw [Addr.add_lit] at this
    exact this
theorem open_raw {fuel : Nat} {v : Value} {x : DataW H × List MemPlace} (h : DataW.trod enc Try.prog w base spare held fuel 22 [v] = some x) :
    ∃ ai ni ci xs, v = .slice ai ni ci ∧ RawI w ai ni xs := by
  rcases open_ints Try.underlying22 Try.underlying3 (by kernel_rfl) h with ⟨hcs, _⟩ | ⟨y, l, c, zs, hcs, _, hl, hm, hz, _, hcell, hwz⟩
  · simp only [List.cons.injEq, and_true] at hcs
    exact ⟨none, 0, 0, [], hcs, rfl, by omega, .inl rfl, by intro x hx; cases hx⟩
  · simp only [List.cons.injEq, and_true] at hcs
    have hzl : l ≤ zs.length := by rw [hz]; split <;> omega
    refine ⟨some y, l, c, zs.take l, hcs, by simp [hzl], by unfold maxLen at hm; omega, ?_, fun x hx => hwz x (List.mem_of_mem_take hx)⟩
    refine cells_at fun i hi => ?_
    rw [hcell i (by omega), List.getD_eq_getElem?_getD, List.getD_eq_getElem?_getD, List.getElem?_take, if_pos hi]
theorem open_strs {fuel : Nat} {a : Option Addr} {len cap : Nat} {x : DataW H × List MemPlace} (h : DataW.trod enc Try.prog w base spare held fuel 23 [.slice a len cap] = some x) : ∃ xs, RawS w a len xs := by
  rcases open_strings Try.underlying23 Try.underlying9 (by kernel_rfl) h with ⟨hcs, _⟩ | ⟨y, l, c, zs, hcs, _, hl, hm, hz, _, hcell, hwz⟩
  · simp only [List.cons.injEq, and_true, Value.slice.injEq] at hcs
    obtain ⟨rfl, rfl, rfl⟩ := hcs
    exact ⟨[], rfl, by omega, .inl rfl, by intro x hx; cases hx⟩
  · simp only [List.cons.injEq, and_true, Value.slice.injEq] at hcs
    obtain ⟨rfl, rfl, rfl⟩ := hcs
    have hzl : len ≤ zs.length := by rw [hz]; split <;> omega
    refine ⟨zs.take len, by simp [hzl], by unfold maxLen at hm; omega, ?_, fun x hx => hwz x (List.mem_of_mem_take hx)⟩
    refine cells_at fun i hi => ?_
    rw [hcell i (by omega), List.getD_eq_getElem?_getD, List.getD_eq_getElem?_getD, List.getElem?_take, if_pos hi]
theorem open_rows {fuel : Nat} {a : Option Addr} {len cap : Nat} {x : DataW H × List MemPlace} (h : DataW.trod enc Try.prog w base spare held fuel 36 [.slice a len cap] = some x) : ∃ xss, RowsU w a len xss := by
  rcases open_slice1 Try.underlying36 (by kernel_rfl) h with ⟨hcs, _⟩ | ⟨a', len', cap', m, n, V, D, Pl, hcs, hb, hl, hm, hmm, hx, hi⟩
  · simp only [List.cons.injEq, and_true, Value.slice.injEq] at hcs
    obtain ⟨rfl, rfl, rfl⟩ := hcs
    exact ⟨[], rfl, by omega, .inl rfl⟩
  · simp only [List.cons.injEq, and_true, Value.slice.injEq] at hcs
    obtain ⟨rfl, rfl, rfl⟩ := hcs
    have hml : len ≤ m := by rw [hmm]; split <;> omega
    have hel : ∀ i, i < len → ∃ xs : List Int, ∃ ai ci, w.cell? (a'.add i) = some (.slice ai xs.length ci) ∧ RawI w ai xs.length xs := by
      intro i hil
      obtain ⟨hc, ht⟩ := hi i (by omega)
      obtain ⟨ai, ni, ci, xs, hv, hst⟩ := open_raw ht
      obtain rfl := hst.len
      exact ⟨xs, ai, ci, by rw [hc, hv], hst⟩
    obtain ⟨xss, hxl, hxp⟩ := exists_list ([] : List Int) _ len hel
    refine ⟨xss, hxl, by unfold maxLen at hm; omega, ?_⟩
    by_cases h0 : len = 0
    · exact .inl h0
    · right
      obtain ⟨ai, ci, c0, _⟩ := hxp 0 (by omega)
      obtain ⟨hs, hbl⟩ := cell_spot c0
      obtain ⟨b, off, spot⟩ := a'
      simp only [Addr.add] at hs hbl
      subst hs
      refine ⟨b, off, rfl, hbl, fun i hil => ?_⟩
      obtain ⟨ai, ci, c0, hst⟩ := hxp i hil
      rw [Addr.add_lit] at c0
      exact ⟨ai, ci, c0, hst⟩
end
end Go.Proofs.Ytkcbahfmdokalaa
