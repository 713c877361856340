/-
  What came in: numbers and lists of lists, off the row's own reading, with the bound that what a machine reaches sets. Plain facts; conditions: none.
-/
import Derived.Test.YthpdflpkkiabhaaBb
import Derived.Deep.Slices
import Derived.SizedLaws
import Derived.ProofKit
import Derived.OpenShut
namespace Go.Proofs.Ythpdflpkkiabhaa
open Go.ChangeShapes Go.WideShapes Go.ChangeAt Go.RowKit Go.Deep
set_option linter.unusedVariables false
theorem exists_list {α : Type} (d : α) (P : Nat → α → Prop) : ∀ n, (∀ i, i < n → ∃ x, P i x) → ∃ l : List α, l.length = n ∧ ∀ i, i < n → P i (l.getD i d)
  | 0, _ => ⟨[], rfl, fun i hi => by omega⟩
  | n + 1, h => by
    obtain ⟨l, hl, hp⟩ := exists_list d P n (fun i hi => h i (by omega))
    obtain ⟨x, hx⟩ := h n (by omega)
    refine ⟨l ++ [x], by simp [hl], fun i hi => ?_⟩
    rcases Nat.lt_succ_iff_lt_or_eq.1 hi with h1 | rfl
    · rw [List.getD_eq_getElem?_getD, List.getElem?_append_left (by omega), ← List.getD_eq_getElem?_getD]
      exact hp i h1
    · rw [List.getD_eq_getElem?_getD, List.getElem?_append_right (by omega), hl]
      simpa using hx
/-- Lists of numbers that came in. -/
structure RowsR (w : World) (a : Option Addr) (n cap : Nat) (xss : List (List Int)) : Prop where
  rows : Rows w a n xss
  room : n ≤ cap ∧ cap ≤ 9223372036854775807
  nilCap : a = none → cap = 0
theorem weightsAll_mem {H : Type} {P : Program} {e : TypeId} : ∀ {l : List (DataW H)} {d : DataW H} {n : Nat}, d ∈ l → n ∈ d.weights P e → n ∈ DataW.weightsAll P e l
  | x :: l, d, n, hd, hn => by
    simp only [DataW.weightsAll, List.mem_append]
    rcases List.mem_cons.1 hd with rfl | h
    · exact .inl hn
    · exact .inr (weightsAll_mem h hn)
section
variable {H : Type} {enc : TypeId × Value → H} {w : World} {base : Nat} {held : Bool}
theorem cells_at {x : Addr} {len : Nat} {f : Nat → Value} (h : ∀ i, i < len → w.cell? (x.add i) = some (f i)) : len = 0 ∨ ∃ b off, some x = some ⟨b, off, none⟩ ∧ b < w.heap.size ∧ ∀ i, i < len → w.cell? ⟨b, off + i, none⟩ = some (f i) := by
  by_cases hl : len = 0
  · exact .inl hl
  · right
    have h0 := h 0 (by omega)
    have e0 : x.add 0 = x := by simp [Addr.add]
    rw [e0] at h0
    obtain ⟨hs, hb⟩ := cell_spot h0
    obtain ⟨b, off, spot⟩ := x
    simp only at hs hb
    subst hs
    refine ⟨b, off, rfl, hb, fun i hi => ?_⟩
    have := h i hi
    rw [Addr.add_lit] at this
    exact this
theorem open_raw {fuel : Nat} {v : Value} {d : DataW H} {pl : List MemPlace} (h : DataW.trod enc Try.prog w base (fun _ => true) held fuel 25 [v] = some (d, pl)) (hz : ∀ n ∈ d.weights Try.prog 25, n ≤ reachBytes) :
    ∃ ai ni ci xs, v = .slice ai ni ci ∧ Ints w ai ni xs := by
  rcases open_ints Try.underlying25 Try.underlying3 (by kernel_rfl) h with ⟨hcs, _⟩ | ⟨y, l, c, zs, hcs, _, hl, hm, hzl, hx, hcell, hwz⟩
  · simp only [List.cons.injEq, and_true] at hcs
    exact ⟨none, 0, 0, [], hcs, rfl, by omega, .inl rfl⟩
  · simp only [List.cons.injEq, and_true] at hcs
    have hzl2 : l ≤ zs.length := by rw [hzl]; split <;> omega
    have hd : d = .slice (lits .i64 (zs.take l)) (lits .i64 (zs.drop l)) := congrArg Prod.fst hx
    have hb : Try.prog.bytesOf 3 = 8 := by kernel_rfl
    have hw := hz (zs.length * 8) (by
      rw [hd]
      simp only [DataW.weights, Try.underlying25, hb]
      simp [lits]
      omega)
    have hr := reachBytes_lt
    refine ⟨some y, l, c, zs.take l, hcs, by simp [hzl2], by omega, ?_⟩
    refine cells_at fun i hi => ?_
    rw [hcell i (by omega), List.getD_eq_getElem?_getD, List.getD_eq_getElem?_getD, List.getElem?_take, if_pos hi]
theorem open_rows {fuel : Nat} {a : Option Addr} {len cap : Nat} {d : DataW H} {pl : List MemPlace} (h : DataW.trod enc Try.prog w base (fun _ => true) held fuel 23 [.slice a len cap] = some (d, pl)) (hz : ∀ n ∈ d.weights Try.prog 23, n ≤ reachBytes) : ∃ xss, RowsR w a len cap xss := by
  rcases open_slice1 Try.underlying23 (by kernel_rfl) h with ⟨hcs, _⟩ | ⟨a', len', cap', m, n, V, D, Pl, hcs, hb, hl, hm, hmm, hx, hi⟩
  · simp only [List.cons.injEq, and_true, Value.slice.injEq] at hcs
    obtain ⟨rfl, rfl, rfl⟩ := hcs
    exact ⟨[], ⟨rfl, by omega, .inl rfl⟩, by omega, fun _ => rfl⟩
  · simp only [List.cons.injEq, and_true, Value.slice.injEq] at hcs
    obtain ⟨rfl, rfl, rfl⟩ := hcs
    have hml : len ≤ m := by rw [hmm]; split <;> omega
    have hd : d = .slice ((List.range len).map D) ((List.range (m - len)).map fun j => D (len + j)) := congrArg Prod.fst hx
    have hby : Try.prog.bytesOf 25 = 24 := by kernel_rfl
    have hr := reachBytes_lt
    have hw0 := hz (m * 24) (by
      rw [hd]
      simp only [DataW.weights, Try.underlying23, hby]
      simp
      left
      omega)
    have hwD : ∀ i, i < len → ∀ k ∈ (D i).weights Try.prog 25, k ≤ reachBytes := fun i hil k hk => by
      refine hz k ?_
      rw [hd]
      simp only [DataW.weights, Try.underlying23, List.mem_cons, List.mem_append]
      exact .inr (.inl (weightsAll_mem (List.mem_map.2 ⟨i, List.mem_range.2 hil, rfl⟩) hk))
    have hel : ∀ i, i < len → ∃ xs : List Int, ∃ ai ci, w.cell? (a'.add i) = some (.slice ai xs.length ci) ∧ Ints w ai xs.length xs := by
      intro i hil
      obtain ⟨hc, ht⟩ := hi i (by omega)
      obtain ⟨ai, ni, ci, xs, hv, hst⟩ := open_raw ht (hwD i hil)
      obtain rfl := hst.len
      exact ⟨xs, ai, ci, by rw [hc, hv], hst⟩
    obtain ⟨xss, hxl, hxp⟩ := exists_list ([] : List Int) _ len hel
    refine ⟨xss, ⟨hxl, by omega, ?_⟩, by unfold maxLen at hm; omega, fun h => by cases h⟩
    by_cases h0 : len = 0
    · exact .inl h0
    · right
      obtain ⟨ai, ci, c0, _⟩ := hxp 0 (by omega)
      obtain ⟨hs, hbl⟩ := cell_spot c0
      obtain ⟨b, off, spot⟩ := a'
      simp only [Addr.add] at hs hbl
      subst hs
      refine ⟨b, off, rfl, hbl, fun i hil => ?_⟩
      obtain ⟨ai, ci, c0, hst⟩ := hxp i hil
      rw [Addr.add_lit] at c0
      exact ⟨ai, ci, c0, hst⟩
end
end Go.Proofs.Ythpdflpkkiabhaa
