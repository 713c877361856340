/-
  The reference's forms. No condition.
-/
import Derived.Test.YtoogopcaieodoaaRf
namespace Go.Proofs.Ytoogopcaieodoaa
open Go.RowKit Go.Shelf
attribute [local go_sem] onto_cell onto_frozen
attribute [-go_sem] loadCellsFrom
set_option linter.unusedVariables false
def sv (l : List UInt8) : Value := .string ⟨l.toArray⟩
def r0 (m : Mk) (c : UInt8) : List (List UInt8) :=
  if c = 92 ∨ isMk m (c.toNat : Int) = true then [[92, c]] else if 32 ≤ c.toNat ∧ c.toNat ≤ 126 then [[c]] else []
def r1 (c : UInt8) : Nat → List (List UInt8)
  | 0 => []
  | 1 => if c = 10 then [[92, 110]] else []
  | 2 => if c = 10 then [[92, 110]] else if c = 13 then [[92, 114]] else []
  | _ => if c = 10 then [[92, 110]] else if c = 13 then [[92, 114]] else if c = 9 then [[92, 116]] else []
def r2 (c : UInt8) (k : Nat) : List (List UInt8) :=
  [[92, 120, hx (c.toNat / 16), hx (c.toNat % 16)], [92, 120, hX (c.toNat / 16), hx (c.toNat % 16)], [92, 120, hx (c.toNat / 16), hX (c.toNat % 16)], [92, 120, hX (c.toNat / 16), hX (c.toNat % 16)]].take k
/-- All forms of a byte. -/
def fm (m : Mk) (c : UInt8) : List (List UInt8) := r0 m c ++ r1 c 3 ++ r2 c 4
theorem info9 : (Try.prog.info? 9).map (fun i => (i.zero, i.size, i.bytes)) = some (some (.string ⟨#[]⟩), 1, 16) := by kernel_rfl
theorem info9_parts : ∃ i, Try.prog.info? 9 = some i ∧ i.zero = some (.string ⟨#[]⟩) ∧ i.size = 1 ∧ i.bytes = 16 := by
  have h := info9
  cases hq : Try.prog.info? 9 with
  | none => rw [hq] at h; simp at h
  | some i =>
    rw [hq] at h
    simp only [Option.map_some, Option.some.injEq, Prod.mk.injEq] at h
    exact ⟨i, rfl, h.1, h.2.1, h.2.2⟩
theorem r0_len (m : Mk) (c : UInt8) : (r0 m c).length ≤ 1 := by
  unfold r0
  split
  · simp
  · split <;> simp
theorem r1_len (c : UInt8) (k : Nat) : (r1 c k).length ≤ 1 := by
  unfold r1
  split
  · simp
  · split <;> simp
  · split
    · simp
    · split <;> simp
  · split
    · simp
    · split
      · simp
      · split <;> simp
/-- Strings that lie in a row. -/
def Strs (w : World) (a : Option Addr) (Q : List (List UInt8)) : Prop := Q = [] ∨ ∃ b off, a = some ⟨b, off, none⟩ ∧ b < w.heap.size ∧ ∀ i, i < Q.length → w.cell? ⟨b, off + i, none⟩ = some (sv (Q.getD i []))
def RetS (w w' : World) (e : Ending) (Q : List (List UInt8)) : Prop := ∃ a cap, e = .returned (.slice a Q.length cap) ∧ Strs w' a Q ∧ Keeps Non w w'
theorem retS_of {w w' : World} {B q : Nat} {v : Value} {Q : List (List UInt8)} (h : w'.ownsRow B 9 1 v q (Q.map sv)) (hk : Keeps Non w w') : RetS w w' (.returned v) Q := by
  obtain ⟨hl, h2⟩ := h
  rw [List.length_map, Nat.mul_one] at hl
  rcases h2 with ⟨rfl, rfl⟩ | ⟨g, cap, cur, rfl, hg, hh, hnc, hcm, hsz, htk⟩
  · have : Q = [] := List.eq_nil_of_length_eq_zero hl
    subst this
    exact ⟨none, 0, rfl, .inl rfl, hk⟩
  · subst hl
    refine ⟨some ⟨g, 0, none⟩, cap, rfl, .inr ⟨g, 0, rfl, (Array.getElem?_eq_some_iff.1 hh).1, fun i hi => ?_⟩, hk⟩
    have e1 : w'.cell? ⟨g, 0 + i, none⟩ = cur[0 + i]? := by simp [World.cell?, hh]
    have e2 : cur[i]? = (Q.map sv)[i]? := by
      rw [← htk, List.getElem?_take, if_pos (by omega)]
      simp
    rw [e1, Nat.zero_add, e2, List.getElem?_map, List.getD_eq_getElem?_getD, List.getElem?_eq_getElem hi]
    rfl
theorem own_ge9 {w : World} {B n : Nat} {v : Value} {xs : List Value} (h : w.ownsRow B 9 1 v n xs) : ∀ k, v.ownBlock = some k → B ≤ k := own_ge h
theorem sv_of {o : ByteArray} {L : List UInt8} (h : o.data.toList = L) : Value.string o = sv L := by
  subst h
  rfl
theorem owns_snoc {w : World} {B q q' : Nat} {v : Value} {Q : List (List UInt8)} {o : ByteArray} {L : List UInt8} (h : w.ownsRow B 9 1 v q' (Q.map sv ++ [.string o])) (ho : o.data.toList = L) : w.ownsRow B 9 1 v q' ((Q ++ [L]).map sv) := by
  rw [List.map_append, List.map_cons, List.map_nil, ← sv_of ho]
  exact h
end Go.Proofs.Ytoogopcaieodoaa
