/-
  WHAT A CALL LEAVES AS IT WAS: 'Keeps S w w'': every block that was there, but those in S, is as it was. Plain facts; conditions: none.
-/
import Derived.WalkKit
import Derived.WalkSpells
import Derived.WalkLawsBesides
import Derived.Lib.Hide
namespace Go.Proofs.Ytkcbahfmdokalaa
open Go.RowKit

/-- Of the blocks of w only those in S may have turned; streams and tape are as they were. -/
structure Keeps (S : Nat → Prop) (w w' : World) : Prop where
  os : w'.os = w.os
  tape : w'.tape = w.tape
  output : w'.output = w.output
  size : w.heap.size ≤ w'.heap.size
  block : ∀ k, k < w.heap.size → ¬ S k → w'.heap[k]? = w.heap[k]?

/-- No block. -/
def Non : Nat → Prop := fun _ => False

theorem Keeps.refl (S : Nat → Prop) (w : World) : Keeps S w w := ⟨rfl, rfl, rfl, Nat.le_refl _, fun _ _ _ => rfl⟩
theorem Keeps.trans {S T : Nat → Prop} {a b c : World} (h : Keeps S a b) (k : Keeps T b c) (hT : ∀ i, i < a.heap.size → T i → S i) : Keeps S a c :=
  ⟨k.os.trans h.os, k.tape.trans h.tape, k.output.trans h.output, Nat.le_trans h.size k.size,
    fun i hi hs => (k.block i (Nat.lt_of_lt_of_le hi h.size) (fun ht => hs (hT i hi ht))).trans (h.block i hi hs)⟩
theorem Keeps.then {S : Nat → Prop} {a b c : World} (h : Keeps S a b) (k : Keeps S b c) : Keeps S a c := h.trans k (fun _ _ x => x)
theorem Keeps.thenNon {S : Nat → Prop} {a b c : World} (h : Keeps S a b) (k : Keeps Non b c) : Keeps S a c := h.trans k (fun _ _ x => x.elim)
theorem Keeps.nonThen {S : Nat → Prop} {a b c : World} (h : Keeps Non a b) (k : Keeps S b c) : Keeps S a c :=
  ⟨k.os.trans h.os, k.tape.trans h.tape, k.output.trans h.output, Nat.le_trans h.size k.size,
    fun i hi hs => (k.block i (Nat.lt_of_lt_of_le hi h.size) hs).trans (h.block i hi (fun x => x))⟩
theorem Keeps.weak {S T : Nat → Prop} {a b : World} (h : Keeps S a b) (hT : ∀ i, i < a.heap.size → S i → T i) : Keeps T a b :=
  ⟨h.os, h.tape, h.output, h.size, fun i hi hs => h.block i hi (fun x => hs (hT i hi x))⟩
theorem Keeps.drew {S : Nat → Prop} {a w : World} (h : Keeps S a w) : Keeps S a w.drew := ⟨h.os, h.tape, h.output, h.size, h.block⟩
theorem Keeps.drewN {S : Nat → Prop} {a w : World} (h : Keeps S a w) (n : Nat) : Keeps S a (w.drewN n) := ⟨h.os, h.tape, h.output, h.size, h.block⟩
theorem Keeps.alloc {S : Nat → Prop} {a w : World} (h : Keeps S a w) (o : Obj) : Keeps S a (w.alloc o) :=
  ⟨h.os, h.tape, h.output, Nat.le_trans h.size (by simp), fun k hk hs => (Below.heap_alloc _ _ _ (Nat.lt_of_lt_of_le hk h.size)).trans (h.block k hk hs)⟩
theorem Keeps.setCell {S : Nat → Prop} {a w : World} (h : Keeps S a w) {p : Addr} (hp : S p.block ∨ a.heap.size ≤ p.block) (u : Value) : Keeps S a (w.setCell p u) :=
  ⟨h.os, h.tape, h.output, by simpa [World.setCell] using h.size, fun k hk hs => (Below.heap_setCell _ _ _ _ (by
    rintro rfl
    rcases hp with hp | hp
    · exact hs hp
    · omega)).trans (h.block k hk hs)⟩
theorem Keeps.of_below {a w : World} (S : Nat → Prop) (h : Below a.heap.size a w) : Keeps S a w :=
  ⟨h.os, h.tape, h.output, h.size, fun k hk _ => h.block k hk⟩
theorem Keeps.below {a w : World} (h : Keeps Non a w) : Below a.heap.size a w := ⟨h.os, h.tape, h.output, h.size, fun k hk => h.block k hk (fun x => x)⟩
/-- Below B, where S has nothing below B. -/
theorem Keeps.belowOf {S : Nat → Prop} {a w : World} (h : Keeps S a w) {B : Nat} (hB : B ≤ a.heap.size) (hS : ∀ i, i < B → ¬ S i) : Below B a w :=
  ⟨h.os, h.tape, h.output, h.size, fun k hk => h.block k (Nat.lt_of_lt_of_le hk hB) (hS k hk)⟩
theorem Keeps.thenBelow {S : Nat → Prop} {a b c : World} (h : Keeps S a b) (k : Below a.heap.size b c) : Keeps S a c :=
  ⟨k.os.trans h.os, k.tape.trans h.tape, k.output.trans h.output, Nat.le_trans h.size k.size, fun i hi hs => (k.block i hi).trans (h.block i hi hs)⟩
theorem Keeps.cell {S : Nat → Prop} {w w' : World} (h : Keeps S w w') {p : Addr} (hp : p.block < w.heap.size) (hs : ¬ S p.block) : w'.cell? p = w.cell? p :=
  World.cell?_of_block (w := w) (h.block p.block hp hs)
theorem Keeps.frozen {S : Nat → Prop} {w w' : World} (h : Keeps S w w') {p : Addr} (hp : p.block < w.heap.size) (hs : ¬ S p.block) : w'.frozen? p = w.frozen? p :=
  World.frozen?_of_block (w := w) (h.block p.block hp hs)

/-- A fact kept from the walk's sight. -/
theorem hide {p : Prop} (h : p) : Hid p := h

/-- A block of cells, none of them frozen. -/
def Blk (w : World) (b : Nat) (xs : List Value) (t : TypeId) : Prop := w.heap[b]? = some (.cells xs.toArray t (0, 0))
theorem Blk.cell {w : World} {b : Nat} {xs : List Value} {t : TypeId} (h : Blk w b xs t) (i : Nat) : w.cell? ⟨b, i, none⟩ = xs[i]? := by
  unfold Blk at h
  simp [World.cell?, h]
theorem Blk.free {w : World} {b : Nat} {xs : List Value} {t : TypeId} (h : Blk w b xs t) (i : Nat) (s : Option Nat) : w.frozen? ⟨b, i, s⟩ = false := by
  unfold Blk at h
  simp [World.frozen?, h]
theorem Blk.lt {w : World} {b : Nat} {xs : List Value} {t : TypeId} (h : Blk w b xs t) : b < w.heap.size := by
  unfold Blk at h
  exact (Array.getElem?_eq_some_iff.1 h).1
theorem Blk.new (w : World) (xs : List Value) (t : TypeId) : Blk (w.alloc (.cells xs.toArray t)) w.heap.size xs t := by
  unfold Blk
  show (w.heap.push _)[w.heap.size]? = _
  simp
theorem Blk.of_eq {w w' : World} {b : Nat} {xs : List Value} {t : TypeId} (h : Blk w b xs t) (e : w'.heap[b]? = w.heap[b]?) : Blk w' b xs t := by
  unfold Blk at *
  rw [e, h]
theorem Blk.alloc {w : World} {b : Nat} {xs : List Value} {t : TypeId} (h : Blk w b xs t) (o : Obj) : Blk (w.alloc o) b xs t :=
  h.of_eq (Below.heap_alloc _ _ _ h.lt)
theorem Blk.drew {w : World} {b : Nat} {xs : List Value} {t : TypeId} (h : Blk w b xs t) : Blk w.drew b xs t := h
theorem Blk.drewN {w : World} {b : Nat} {xs : List Value} {t : TypeId} (h : Blk w b xs t) (n : Nat) : Blk (w.drewN n) b xs t := h
theorem Blk.other {w : World} {b : Nat} {xs : List Value} {t : TypeId} (h : Blk w b xs t) {p : Addr} (hp : b ≠ p.block) (u : Value) : Blk (w.setCell p u) b xs t :=
  h.of_eq (Below.heap_setCell _ _ _ _ hp)
theorem Blk.store {w : World} {b : Nat} {xs : List Value} {t : TypeId} (h : Blk w b xs t) (i : Nat) (u : Value) : Blk (w.setCell ⟨b, i, none⟩ u) b (xs.set i u) t := by
  unfold Blk at *
  simp only [World.setCell, Array.getElem?_modify, h, ↓reduceIte, Option.map_some]
  simp
theorem Blk.keeps {S : Nat → Prop} {w w' : World} {b : Nat} {xs : List Value} {t : TypeId} (h : Blk w b xs t) (k : Keeps S w w') (hs : ¬ S b) : Blk w' b xs t :=
  h.of_eq (k.block b h.lt hs)
theorem Blk.below {w w' : World} {b B : Nat} {xs : List Value} {t : TypeId} (h : Blk w b xs t) (k : Below B w w') (hb : b < B) : Blk w' b xs t :=
  h.of_eq (k.block b hb)
theorem Blk.newAt (w : World) {n : Nat} (xs : List Value) (t : TypeId) (hn : n = w.heap.size) : Blk (w.alloc (.cells xs.toArray t)) n xs t := by
  rw [hn]; exact Blk.new w xs t
/-- What keeps everything: cells and marks read as before. -/
theorem ncell {W w1 : World} (h : Keeps Non W w1) : (∀ b o, b < W.heap.size → w1.cell? ⟨b, o, none⟩ = W.cell? ⟨b, o, none⟩) ∧ (∀ b o, b < W.heap.size → w1.frozen? ⟨b, o, none⟩ = W.frozen? ⟨b, o, none⟩) :=
  ⟨fun b o hb => h.cell (p := ⟨b, o, none⟩) hb (fun x => x), fun b o hb => h.frozen (p := ⟨b, o, none⟩) hb (fun x => x)⟩
theorem below_set {B : Nat} {a w : World} (h : Below B a w) {b i : Nat} (hb : B ≤ b) (u : Value) : Below B a (w.setCell ⟨b, i, none⟩ u) := h.setCell (p := ⟨b, i, none⟩) hb u
theorem Keeps.set {S : Nat → Prop} {a w : World} (h : Keeps S a w) {b i : Nat} (hp : S b ∨ a.heap.size ≤ b) (u : Value) : Keeps S a (w.setCell ⟨b, i, none⟩ u) := h.setCell (p := ⟨b, i, none⟩) hp u
end Go.Proofs.Ytkcbahfmdokalaa
