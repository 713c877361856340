/-
  A slice of slices of steps that came in, off the row's own reading. Plain facts; conditions: none.
-/
import Derived.Test.YtfjofiofgjlgiaaLaw
namespace Go.Proofs.Ytfjofiofgjlgiaa
open Go.ChangeShapes Go.WideShapes Go.ChangeAt Go.RowKit Go.Deep
theorem exists_list {α : Type} (d : α) (P : Nat → α → Prop) : ∀ n, (∀ i, i < n → ∃ x, P i x) → ∃ l : List α, l.length = n ∧ ∀ i, i < n → P i (l.getD i d)
  | 0, _ => ⟨[], rfl, fun i hi => by omega⟩
  | n + 1, h => by
    obtain ⟨l, hl, hp⟩ := exists_list d P n (fun i hi => h i (by omega))
    obtain ⟨x, hx⟩ := h n (by omega)
    refine ⟨l ++ [x], by simp [hl], fun i hi => ?_⟩
    rcases Nat.lt_succ_iff_lt_or_eq.1 hi with h1 | rfl
    · rw [List.getD_eq_getElem?_getD, List.getElem?_append_left (by omega), ← List.getD_eq_getElem?_getD]
      exact hp i h1
    · rw [List.getD_eq_getElem?_getD, List.getElem?_append_right (by omega), hl]
      simpa using hx
section
variable {H : Type} {enc : TypeId × Value → H} {P : Program} {w : World} {base : Nat} {spare : Nat → Bool} {held : Bool}
theorem open_slice_fields {t e : TypeId} {fs : Array Field} {fuel : Nat} {cs : List Value} {x : DataW H × List MemPlace} (ht : P.underlying t = some (.slice e)) (he : P.underlying e = some (.struct fs))
    (hone : oneCellFields P fs = true) (hC : P.cellsOf e = fs.size) (h : DataW.trod enc P w base spare held fuel t cs = some x) :
    (cs = [.slice none 0 0] ∧ x = (.nil, [])) ∨
    ∃ (a : Addr) (len cap m : Nat) (D : Nat → DataW H) (Pl : Nat → List MemPlace), cs = [.slice (some a) len cap] ∧ base ≤ a.block ∧ len ≤ cap ∧ cap ≤ maxLen ∧ m = (if spare a.block then cap else len) ∧
      x = (.slice ((List.range len).map D) ((List.range (m - len)).map fun j => D (len + j)), MemPlace.row a (m * fs.size) ++ (List.range m).flatMap Pl) ∧
      ∀ i, i < m → ∃ (ys : List (DataW H × List MemPlace)) (n : Nat), D i = .agg (ys.map (·.1)) ∧ Pl i = ys.flatMap (·.2) ∧ ys.length = fs.size ∧
        ∀ (j : Nat) (f : Field), fs[j]? = some f → ∃ (v : Value) (y : DataW H × List MemPlace), w.cell? (a.add (i * fs.size + j)) = some v ∧ ys[j]? = some y ∧ DataW.trod enc P w base spare held n f.type [v] = some y := by
  rcases open_slice ht h with h0 | ⟨a, len, cap, m, n, D, Pl, hcs, hb, hl, hm, hmm, hx, hi⟩
  · exact .inl h0
  · refine .inr ⟨a, len, cap, m, D, Pl, hcs, hb, hl, hm, hmm, by rw [hC] at hx; exact hx, fun i him => ?_⟩
    obtain ⟨cs', hc, ht'⟩ := hi i him
    rw [hC] at hc
    obtain ⟨ys, n', hn', hy, hlen, hyl, hf⟩ := DataW.trod_struct he ht'
    obtain ⟨_, hcl, hat⟩ := World.cells?_some hc
    simp only [Prod.mk.injEq] at hy
    refine ⟨ys, n', hy.1, hy.2, hyl, fun j f hj => ?_⟩
    obtain ⟨ho, hk⟩ := hone_of hone j f hj
    have hjl : j < fs.size := (Array.getElem?_eq_some_iff.1 hj).1
    have hcell := hat j hjl
    have hv : cs'[j]? = some (cs'[j]'(by omega)) := List.getElem?_eq_getElem (by omega)
    have h1 := hf j f hj
    rw [ho, hk] at h1
    have hone' : (cs'.drop j).take 1 = [cs'[j]'(by omega)] := by
      rw [List.drop_eq_getElem_cons (by omega)]
      rfl
    rw [hone'] at h1
    have hys : ys[j]? = some (ys[j]'(by omega)) := List.getElem?_eq_getElem (by omega)
    refine ⟨_, _, ?_, hys, h1.trans hys⟩
    rw [← Go.Deep.add_add, hcell, hv]
theorem i64c {a : Int} (h : (Lit.int .i64 a).wf = true) : -9223372036854775808 ≤ a ∧ a ≤ 9223372036854775807 := by
  simp only [Lit.wf, Bool.and_eq_true, decide_eq_true_eq] at h
  exact h
theorem u8c {a : Int} (h : (Lit.int .u8 a).wf = true) : 0 ≤ a ∧ a ≤ 255 := by
  simp only [Lit.wf, Bool.and_eq_true, decide_eq_true_eq] at h
  exact h
theorem open_steps {fuel : Nat} {v : Value} {x : DataW H × List MemPlace} (h : DataW.trod enc Try.prog w base spare held fuel 59 [v] = some x) :
    ∃ ai ni ci xs, v = .slice ai ni ci ∧ Stp w ai ni xs ∧ ni ≤ 9223372036854775807 := by
  rcases open_slice_fields Try.underlying59 Try.underlying62 (by kernel_rfl) (by kernel_rfl) h with ⟨hcs, _⟩ | ⟨a, len, cap, m, D, Pl, hcs, hb, hl, hm, hmm, hx, hi⟩
  · simp only [List.cons.injEq, and_true] at hcs
    exact ⟨none, 0, 0, [], hcs, ⟨rfl, .inl rfl, fun i => by simp⟩, by omega⟩
  · simp only [List.cons.injEq, and_true] at hcs
    have hml : len ≤ m := by rw [hmm]; split <;> omega
    have hel : ∀ i, i < len → ∃ s : Step3, w.cell? (a.add (i * 3)) = some (.int .u8 s.1) ∧ w.cell? (a.add (i * 3 + 1)) = some (.int .i64 s.2.1) ∧ w.cell? (a.add (i * 3 + 2)) = some (.int .i64 s.2.2) ∧ 0 ≤ s.1 ∧ s.1 ≤ 255 ∧ s.2.1 ≤ 9223372036854775807 := by
      intro i hil
      obtain ⟨ys, n', _, _, _, hf⟩ := hi i (by omega)
      obtain ⟨v0, y0, c0, _, t0⟩ := hf 0 _ rfl
      obtain ⟨v1, y1, c1, _, t1⟩ := hf 1 _ rfl
      obtain ⟨v2, y2, c2, _, t2⟩ := hf 2 _ rfl
      obtain ⟨b0, e0, _, w0⟩ := DataW.trod_int Try.underlying5 t0
      obtain ⟨b1, e1, _, w1⟩ := DataW.trod_int Try.underlying3 t1
      obtain ⟨b2, e2, _, w2⟩ := DataW.trod_int Try.underlying3 t2
      simp only [List.cons.injEq, and_true] at e0 e1 e2
      subst e0 e1 e2
      exact ⟨(b0, b1, b2), c0, c1, c2, (u8c w0).1, (u8c w0).2, (i64c w1).2⟩
    obtain ⟨xs, hxl, hxp⟩ := exists_list ((0, 0, 0) : Step3) _ len hel
    refine ⟨some a, len, cap, xs, hcs, ⟨hxl, ?_, fun i => ?_⟩, by unfold maxLen at hm; omega⟩
    · by_cases h0 : len = 0
      · exact .inl h0
      · right
        have c0 := (hxp 0 (by omega)).1
        obtain ⟨hs, hbl⟩ := cell_spot c0
        obtain ⟨b, off, spot⟩ := a
        simp only [Addr.add] at hs hbl
        subst hs
        refine ⟨b, off, rfl, hbl, fun i hil => ?_⟩
        obtain ⟨c0, c1, c2, _⟩ := hxp i hil
        rw [Addr.add_lit] at c0 c1 c2
        exact ⟨c0, by rw [Nat.add_assoc]; exact c1, by rw [Nat.add_assoc]; exact c2⟩
    · by_cases hil : i < len
      · exact (hxp i hil).2.2.2
      · rw [List.getD_eq_getElem?_getD, List.getElem?_eq_none (by omega)]
        simp
theorem open_rows {fuel : Nat} {a : Option Addr} {len cap : Nat} {x : DataW H × List MemPlace} (h : DataW.trod enc Try.prog w base spare held fuel 58 [.slice a len cap] = some x) :
    ∃ xss, Rws w a len xss ∧ len ≤ 9223372036854775807 ∧ ∀ i, (xss.getD i []).length ≤ 9223372036854775807 := by
  rcases open_slice1 Try.underlying58 (by kernel_rfl) h with ⟨hcs, _⟩ | ⟨a', len', cap', m, n, V, D, Pl, hcs, hb, hl, hm, hmm, hx, hi⟩
  · simp at hcs
    obtain ⟨rfl, rfl, rfl⟩ := hcs
    exact ⟨[], ⟨rfl, .inl rfl⟩, by omega, fun i => by simp⟩
  · simp at hcs
    obtain ⟨rfl, rfl, rfl⟩ := hcs
    have hml : len ≤ m := by rw [hmm]; split <;> omega
    have hel : ∀ i, i < len → ∃ xs : List Step3, (∃ ai ci, w.cell? (a'.add i) = some (.slice ai xs.length ci) ∧ Stp w ai xs.length xs) ∧ xs.length ≤ 9223372036854775807 := by
      intro i hil
      obtain ⟨hc, ht⟩ := hi i (by omega)
      obtain ⟨ai, ni, ci, xs, hv, hst, hn⟩ := open_steps ht
      obtain rfl := hst.len
      exact ⟨xs, ⟨ai, ci, by rw [hc, hv], hst⟩, hn⟩
    obtain ⟨xss, hxl, hxp⟩ := exists_list ([] : List Step3) _ len hel
    refine ⟨xss, ⟨hxl, ?_⟩, by unfold maxLen at hm; omega, fun i => ?_⟩
    · by_cases h0 : len = 0
      · exact .inl h0
      · right
        obtain ⟨⟨ai, ci, c0, _⟩, _⟩ := hxp 0 (by omega)
        obtain ⟨hs, hbl⟩ := cell_spot c0
        obtain ⟨b, off, spot⟩ := a'
        simp only [Addr.add] at hs hbl
        subst hs
        refine ⟨b, off, rfl, hbl, fun i hil => ?_⟩
        obtain ⟨⟨ai, ci, c0, hst⟩, _⟩ := hxp i hil
        rw [Addr.add_lit] at c0
        exact ⟨ai, ci, c0, hst⟩
    · by_cases hil : i < len
      · exact (hxp i hil).2
      · rw [List.getD_eq_getElem?_getD, List.getElem?_eq_none (by omega)]
        simp
end
end Go.Proofs.Ytfjofiofgjlgiaa
