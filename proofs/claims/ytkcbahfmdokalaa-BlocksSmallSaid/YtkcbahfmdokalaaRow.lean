/-
  SLICES THAT CAME IN: bytes ('Byts') and ints, off the row's own reading. Plain facts; conditions: none.
-/
import Derived.Test.YtkcbahfmdokalaaInts
import Derived.ProofKit
import Derived.OpenShut
namespace Go.Proofs.Ytkcbahfmdokalaa
open Go.RowKit
/-- What the row's reading gives of a slice of integers. -/
def IsRow (k : IntKind) (w : World) (a : Option Addr) (len cap : Nat) (zs : List Int) : Prop :=
  (a = none ∧ len = 0 ∧ cap = 0 ∧ zs = []) ∨
  ∃ x, a = some x ∧ len ≤ cap ∧ cap ≤ maxLen ∧ zs.length = cap ∧ (∀ i, i < zs.length → w.cell? (x.add i) = some (.int k (zs.getD i 0))) ∧ ∀ n ∈ zs, (Lit.int k n).wf = true
theorem IsRow.room {k : IntKind} {w : World} {a : Option Addr} {len cap : Nat} {zs : List Int} (h : IsRow k w a len cap zs) : len ≤ cap ∧ cap ≤ 9223372036854775807 := by
  rcases h with ⟨_, rfl, rfl, _⟩ | ⟨_, _, h1, h2, _⟩
  · omega
  · unfold maxLen at h2; omega
theorem IsRow.nilCap {k : IntKind} {w : World} {a : Option Addr} {len cap : Nat} {zs : List Int} (h : IsRow k w a len cap zs) : a = none → cap = 0 := by
  rcases h with ⟨_, _, rfl, _⟩ | ⟨_, rfl, _⟩
  · intro; rfl
  · intro h; cases h
theorem cell_spot {w : World} {x : Addr} {v : Value} (h : w.cell? x = some v) : x.spot = none ∧ x.block < w.heap.size := by
  unfold World.cell? at h
  split at h
  · rename_i e
    refine ⟨?_, (Array.getElem?_eq_some_iff.1 e).1⟩
    split at h
    · cases h
    · rename_i hs
      simpa using hs
  · cases h
theorem IsRow.cells {k : IntKind} {w : World} {a : Option Addr} {len cap : Nat} {zs : List Int} (h : IsRow k w a len cap zs) :
    (zs.take len).length = len ∧ (len = 0 ∨ ∃ b off, a = some ⟨b, off, none⟩ ∧ b < w.heap.size ∧ ∀ i, i < len → w.cell? ⟨b, off + i, none⟩ = some (.int k ((zs.take len).getD i 0))) ∧ (∀ n ∈ zs.take len, (Lit.int k n).wf = true) := by
  rcases h with ⟨rfl, rfl, rfl, rfl⟩ | ⟨x, rfl, h1, h2, h3, h4, h5⟩
  · exact ⟨rfl, .inl rfl, by simp⟩
  · refine ⟨by simp; omega, ?_, fun n hn => h5 n (List.mem_of_mem_take hn)⟩
    by_cases hl : len = 0
    · exact .inl hl
    · right
      have h0 := h4 0 (by omega)
      have e0 : x.add 0 = x := by simp [Addr.add]
      rw [e0] at h0
      obtain ⟨hs, hb⟩ := cell_spot h0
      obtain ⟨b, off, spot⟩ := x
      simp only at hs hb
      subst hs
      refine ⟨b, off, rfl, hb, fun i hi => ?_⟩
      have := h4 i (by omega)
      rw [Addr.add_lit] at this
      rw [this]
      simp [List.getD_eq_getElem?_getD, hi]
theorem ints_of_row {w : World} {a : Option Addr} {len cap : Nat} {zs : List Int} (h : IsRow .i64 w a len cap zs) (hb : len ≤ 17592186044416) : Ints w a len (zs.take len) :=
  ⟨h.cells.1, hb, h.cells.2.1⟩
/-- The bytes at a, n of them, read xs. -/
structure Byts (w : World) (a : Option Addr) (n : Nat) (xs : List Int) : Prop where
  len : xs.length = n
  big : n ≤ 9223372036854775807
  cell : n = 0 ∨ ∃ b off, a = some ⟨b, off, none⟩ ∧ b < w.heap.size ∧ ∀ i, i < n → w.cell? ⟨b, off + i, none⟩ = some (.int .u8 (xs.getD i 0))
  bd : ∀ i, 0 ≤ xs.getD i 0 ∧ xs.getD i 0 ≤ 255
theorem Byts.keeps {S : Nat → Prop} {w w' : World} {a : Option Addr} {n : Nat} {xs : List Int} (h : Byts w a n xs) (k : Keeps S w w') (hs : ∀ b o, a = some ⟨b, o, none⟩ → ¬ S b) : Byts w' a n xs :=
  ⟨h.len, h.big, h.cell.imp id fun ⟨b, off, ha, hb, hc⟩ => ⟨b, off, ha, Nat.lt_of_lt_of_le hb k.size, fun i hi => (k.cell (p := ⟨b, off + i, none⟩) hb (hs b off ha)).trans (hc i hi)⟩, h.bd⟩
theorem Byts.non {w w' : World} {a : Option Addr} {n : Nat} {xs : List Int} (h : Byts w a n xs) (k : Keeps Non w w') : Byts w' a n xs := h.keeps k (fun _ _ _ x => x)
theorem Byts.at {w : World} {a : Option Addr} {n : Nat} {xs : List Int} (h : Byts w a n xs) (hn : 0 < n) : ∃ b off, a = some ⟨b, off, none⟩ ∧ b < w.heap.size ∧ ∀ i, i < n → w.cell? ⟨b, off + i, none⟩ = some (.int .u8 (xs.getD i 0)) :=
  h.cell.resolve_left (by omega)
theorem byts_of_row {w : World} {a : Option Addr} {len cap : Nat} {zs : List Int} (h : IsRow .u8 w a len cap zs) : Byts w a len (zs.take len) :=
  ⟨h.cells.1, by have := h.room; omega, h.cells.2.1, fun i => by
    by_cases hi : i < (zs.take len).length
    · have e : (zs.take len).getD i 0 = (zs.take len)[i] := by rw [List.getD_eq_getElem?_getD, List.getElem?_eq_getElem hi]; rfl
      have := h.cells.2.2 _ (List.getElem_mem hi)
      rw [e]
      simp only [Lit.wf, Bool.and_eq_true, decide_eq_true_eq] at this
      exact this
    · have e : (zs.take len).getD i 0 = 0 := by
        rw [List.getD_eq_getElem?_getD, List.getElem?_eq_none (by omega)]
        rfl
      rw [e]
      omega⟩
theorem u8b {a : Int} (h : (Lit.int .u8 a).wf = true) : 0 ≤ a ∧ a ≤ 255 := by
  simp only [Lit.wf, Bool.and_eq_true, decide_eq_true_eq] at h
  exact h
theorem own_ge {w : World} {B e n : Nat} {v : Value} {xs : List Value} (h : w.ownsRow B e 1 v n xs) : ∀ k, v.ownBlock = some k → B ≤ k := by
  obtain ⟨_, h2⟩ := h
  rcases h2 with ⟨rfl, rfl⟩ | ⟨g, cap, cur, rfl, hg, _⟩
  · intro k hk; simp [Value.ownBlock] at hk
  · intro k hk
    simp [Value.ownBlock] at hk
    omega
end Go.Proofs.Ytkcbahfmdokalaa
