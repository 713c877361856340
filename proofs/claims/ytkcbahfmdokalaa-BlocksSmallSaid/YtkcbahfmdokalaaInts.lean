/-
  A SLICE OF ints THAT IS ONLY READ: 'Ints w a n xs'. Plain facts; conditions: none.
-/
import Derived.Test.YtkcbahfmdokalaaKeep
namespace Go.Proofs.Ytkcbahfmdokalaa
open Go.RowKit
theorem ret_bool {a b : Bool} (h : a = b) : Ending.returned (.bool a) = .returned (.bool b) := by rw [h]
theorem ret_int {k : IntKind} {a b : Int} (h : a = b) : Ending.returned (.int k a) = .returned (.int k b) := by rw [h]
/-- The slice at a, of n elements, reads xs. -/
structure Ints (w : World) (a : Option Addr) (n : Nat) (xs : List Int) : Prop where
  len : xs.length = n
  big : n ≤ 17592186044416
  cell : n = 0 ∨ ∃ b off, a = some ⟨b, off, none⟩ ∧ b < w.heap.size ∧ ∀ i, i < n → w.cell? ⟨b, off + i, none⟩ = some (.int .i64 (xs.getD i 0))
theorem Ints.keeps {S : Nat → Prop} {w w' : World} {a : Option Addr} {n : Nat} {xs : List Int} (h : Ints w a n xs) (k : Keeps S w w') (hs : ∀ b o, a = some ⟨b, o, none⟩ → ¬ S b) : Ints w' a n xs :=
  ⟨h.len, h.big, h.cell.imp id fun ⟨b, off, ha, hb, hc⟩ => ⟨b, off, ha, Nat.lt_of_lt_of_le hb k.size, fun i hi => (k.cell (p := ⟨b, off + i, none⟩) hb (hs b off ha)).trans (hc i hi)⟩⟩
theorem Ints.non {w w' : World} {a : Option Addr} {n : Nat} {xs : List Int} (h : Ints w a n xs) (k : Keeps Non w w') : Ints w' a n xs := h.keeps k (fun _ _ _ x => x)
theorem Ints.nil (w : World) (a : Option Addr) : Ints w a 0 [] := ⟨rfl, by omega, .inl rfl⟩
/-- Where there is an element. -/
theorem Ints.at {w : World} {a : Option Addr} {n : Nat} {xs : List Int} (h : Ints w a n xs) (hn : 0 < n) : ∃ b off, a = some ⟨b, off, none⟩ ∧ b < w.heap.size ∧ ∀ i, i < n → w.cell? ⟨b, off + i, none⟩ = some (.int .i64 (xs.getD i 0)) :=
  h.cell.resolve_left (by omega)
/-- What a call made itself, read. -/
theorem ints_of_owns {w : World} {B e n : Nat} {v : Value} {xs : List Int} (h : w.ownsRow B e 1 v n (xs.map (Value.int .i64))) (hb : n ≤ 17592186044416) : ∃ a cap, v = .slice a n cap ∧ Ints w a n xs := by
  obtain ⟨hl, h2⟩ := h
  have hlen : xs.length = n := by simpa using hl
  rcases h2 with ⟨rfl, rfl⟩ | ⟨g, cap, cur, rfl, hg, hh, hnc, hcm, hsz, htk⟩
  · exact ⟨none, 0, rfl, hlen, hb, .inl rfl⟩
  · refine ⟨some ⟨g, 0, none⟩, cap, rfl, hlen, hb, .inr ⟨g, 0, rfl, (Array.getElem?_eq_some_iff.1 hh).1, fun i hi => ?_⟩⟩
    have e1 : w.cell? ⟨g, 0 + i, none⟩ = cur[i]? := by simp [World.cell?, hh]
    have e2 : cur[i]? = (xs.map (Value.int .i64))[i]? := by
      rw [← htk, List.getElem?_take, if_pos (by omega)]
      simp
    rw [e1, e2, List.getElem?_map, List.getElem?_eq_getElem (by omega), List.getD_eq_getElem?_getD, List.getElem?_eq_getElem (by omega)]
    rfl
/-- What a call made itself stays so behind what keeps it. -/
theorem owns_keeps {S : Nat → Prop} {w w' : World} {B e n : Nat} {v : Value} {xs : List Value} (h : w.ownsRow B e 1 v n xs) (k : Keeps S w w') (hs : ∀ g, B ≤ g → ¬ S g) : w'.ownsRow B e 1 v n xs := by
  obtain ⟨hl, h2⟩ := h
  refine ⟨hl, h2.imp id ?_⟩
  rintro ⟨g, cap, cur, rfl, hg, hh, r⟩
  exact ⟨g, cap, cur, rfl, hg, (k.block g (Array.getElem?_eq_some_iff.1 hh).1 (hs g hg)).trans hh, r⟩
theorem keeps_grown {S : Nat → Prop} {a w w' : World} {row : Option Nat} (h : Keeps S a w) (hg : w.grownBy w' row) (hr : ∀ k, row = some k → S k ∨ a.heap.size ≤ k) : Keeps S a w' :=
  ⟨hg.os.trans h.os, hg.tape.trans h.tape, hg.output.trans h.output, Nat.le_trans h.size hg.size, fun k hk hs => (hg.block k (Nat.lt_of_lt_of_le hk h.size) (fun e => by
    rcases hr k e.symm with x | x
    · exact hs x
    · omega)).trans (h.block k hk hs)⟩
end Go.Proofs.Ytkcbahfmdokalaa
