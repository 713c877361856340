/-
  Rows of bytes that a call has made itself; the walk over Unquote. No condition.
-/
import Derived.Test.YtoogopcaieodoaaH
import Derived.Laws.IdiomStrings
namespace Go.Proofs.Ytoogopcaieodoaa
open Go.RowKit
attribute [local go_sem] onto_cell onto_frozen
theorem owns_keeps {S : Nat → Prop} {w w' : World} {B e n : Nat} {v : Value} {xs : List Value} (h : w.ownsRow B e 1 v n xs) (k : Keeps S w w') (hs : ∀ g, B ≤ g → ¬ S g) : w'.ownsRow B e 1 v n xs := by
  obtain ⟨hl, h2⟩ := h
  refine ⟨hl, h2.imp id ?_⟩
  rintro ⟨g, cap, cur, rfl, hg, hh, r⟩
  exact ⟨g, cap, cur, rfl, hg, (k.block g (Array.getElem?_eq_some_iff.1 hh).1 (hs g hg)).trans hh, r⟩
theorem keeps_grown {S : Nat → Prop} {a w w' : World} {row : Option Nat} (h : Keeps S a w) (hg : w.grownBy w' row) (hr : ∀ k, row = some k → S k ∨ a.heap.size ≤ k) : Keeps S a w' :=
  ⟨hg.os.trans h.os, hg.tape.trans h.tape, hg.output.trans h.output, Nat.le_trans h.size hg.size, fun k hk hs => (hg.block k (Nat.lt_of_lt_of_le hk h.size) (fun e => by
    rcases hr k e.symm with x | x
    · exact hs x
    · omega)).trans (h.block k hk hs)⟩
theorem own_ge {w : World} {B e n : Nat} {v : Value} {xs : List Value} (h : w.ownsRow B e 1 v n xs) : ∀ k, v.ownBlock = some k → B ≤ k := by
  obtain ⟨_, h2⟩ := h
  rcases h2 with ⟨rfl, rfl⟩ | ⟨g, cap, cur, rfl, hg, _⟩
  · intro k hk; simp [Value.ownBlock] at hk
  · intro k hk
    simp [Value.ownBlock] at hk
    omega
/-- string(out), of a row that the call has made itself. -/
theorem own_string {w : World} {B n : Nat} {v : Value} {l : List UInt8} (h : w.ownsRow B 5 1 v n (Lib.byteCells l)) : (convert 33 9 v).run Try.prog w = .ok (.string ⟨l.toArray⟩) w := by
  obtain ⟨hl, h2⟩ := h
  rw [Lib.byteCells_length, Nat.mul_one] at hl
  rcases h2 with ⟨rfl, rfl⟩ | ⟨g, cap, cur, rfl, hg, hh, hnc, hcm, hsz, htk⟩
  · have e : l = [] := List.eq_nil_of_length_eq_zero hl
    subst e
    exact run_convert_bytes_nil w 33 5 Try.underlying33 Try.underlying5 0 0 9 Try.underlying9
  · subst hl
    refine run_convert_bytes_back w 33 9 5 ⟨g, 0, none⟩ cap l Try.underlying33 Try.underlying5 Try.underlying9 fun j hj => ?_
    rw [Addr.add_lit]
    have e1 : w.cell? ⟨g, 0 + j, none⟩ = cur[j]? := by simp [World.cell?, hh]
    have e2 : cur[j]? = (Lib.byteCells l)[j]? := by
      rw [← htk, List.getElem?_take, if_pos (by omega)]
      simp
    rw [e1, e2, Lib.byteCells, List.getElem?_map, List.getElem?_eq_getElem hj]
    rfl
/-- What Unquote reads behind the first quotation mark: the bytes, how far it came, the error. -/
def unqF : Nat → Nat → List UInt8 → List UInt8 → List UInt8 × Int × Int
  | 0, k, _, _ => ([], (k : Int), 21)
  | _ + 1, k, _, [] => ([], (k : Int), 21)
  | f + 1, k, out, c :: r =>
    if (c.toNat : Int) = 34 then (out, (k : Int) + 1, 0)
    else if (rdB qm (c :: r)).2.2 ≠ 0 then ([], (k : Int), (rdB qm (c :: r)).2.2)
    else unqF f (k + (rdB qm (c :: r)).2.1.toNat) (out ++ [UInt8.ofNat (rdB qm (c :: r)).1.toNat]) ((c :: r).drop (rdB qm (c :: r)).2.1.toNat)
def unq : List UInt8 → List UInt8 × Int × Int
  | [] => ([], 0, 21)
  | c :: r => if (c.toNat : Int) = 34 then unqF (r.length + 1) 1 [] r else ([], 0, 21)
def unqT (x : List UInt8 × Int × Int) : Value := .tuple #[.string ⟨x.1.toArray⟩, .int .i64 x.2.1, .int .i64 x.2.2]
/-- What a reading says of how many bytes. -/
theorem rdE_n (m : Mk) (d : Int) (r : List UInt8) : ((rdE m d r).2.2 = 0 ∧ 2 ≤ (rdE m d r).2.1 ∧ (rdE m d r).2.1 ≤ 2 + r.length) ∨ (rdE m d r).2.2 = 20 ∧ (rdE m d r).2.1 = 0 ∧ (rdE m d r).1 = 0 := by
  unfold rdE
  split
  · split
    · split
      · left; simp; omega
      · right; simp
    · right; simp
  · repeat (first | (split <;> first | (left; simp; omega) | (right; simp; done) | skip))
theorem rdB_n (m : Mk) (l : List UInt8) : ((rdB m l).2.2 = 0 ∧ 1 ≤ (rdB m l).2.1 ∧ (rdB m l).2.1 ≤ l.length) ∨ (rdB m l).2.2 = 20 ∧ (rdB m l).2.1 = 0 ∧ (rdB m l).1 = 0 := by
  match l with
  | [] => right; simp [rdB]
  | c :: r =>
    by_cases h92 : (c.toNat : Int) = 92
    · match r with
      | [] =>
        right
        simp only [rdB, h92, ↓reduceIte, and_self]
      | d :: r =>
        have e : rdB m (c :: d :: r) = rdE m (d.toNat : Int) r := by simp only [rdB, h92, ↓reduceIte]
        rw [e]
        rcases rdE_n m (d.toNat : Int) r with ⟨h1, h2, h3⟩ | h
        · left
          simp only [List.length_cons]
          exact ⟨h1, by omega, by omega⟩
        · right
          exact h
    · by_cases hp : 32 ≤ (c.toNat : Int) ∧ (c.toNat : Int) ≤ 126 ∧ isMk m (c.toNat : Int) = false
      · have e : rdB m (c :: r) = ((c.toNat : Int), 1, 0) := by
          simp only [rdB]
          rw [if_neg h92, if_pos hp]
        rw [e]
        left
        simp only [List.length_cons]
        exact ⟨trivial, by omega, by omega⟩
      · have e : rdB m (c :: r) = (0, 0, 20) := by
          simp only [rdB]
          rw [if_neg h92, if_neg hp]
        rw [e]
        right
        exact ⟨rfl, rfl, rfl⟩
theorem rdE_byte (m : Mk) (d : Int) (r : List UInt8) (h0 : 0 ≤ d) (h1 : d ≤ 255) : 0 ≤ (rdE m d r).1 ∧ (rdE m d r).1 ≤ 255 := by
  unfold rdE
  split
  · split
    · split
      · rename_i h
        have a := nib_nonneg
        obtain ⟨h2, h3⟩ := h
        constructor
        · exact Int.add_nonneg (Int.mul_nonneg (a _) (by omega)) (a _)
        · simp only []
          omega
      · simp
    · simp
  · repeat (first | (split <;> first | (exact ⟨h0, h1⟩) | (simp; done) | skip))
theorem rdB_byte (m : Mk) (l : List UInt8) : 0 ≤ (rdB m l).1 ∧ (rdB m l).1 ≤ 255 := by
  match l with
  | [] => simp [rdB]
  | c :: r =>
    by_cases h92 : (c.toNat : Int) = 92
    · match r with
      | [] => simp only [rdB, h92, ↓reduceIte]; omega
      | d :: r =>
        have e : rdB m (c :: d :: r) = rdE m (d.toNat : Int) r := by simp only [rdB, h92, ↓reduceIte]
        rw [e]
        exact rdE_byte m _ r (u8_bd d).1 (u8_bd d).2
    · by_cases hp : 32 ≤ (c.toNat : Int) ∧ (c.toNat : Int) ≤ 126 ∧ isMk m (c.toNat : Int) = false
      · have e : rdB m (c :: r) = ((c.toNat : Int), 1, 0) := by
          simp only [rdB]
          rw [if_neg h92, if_pos hp]
        rw [e]
        exact u8_bd c
      · have e : rdB m (c :: r) = (0, 0, 20) := by
          simp only [rdB]
          rw [if_neg h92, if_neg hp]
        rw [e]
        simp only []
        omega
end Go.Proofs.Ytoogopcaieodoaa
