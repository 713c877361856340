/-
  Walks over layer 1 and 2: Has, isMark, nibble. No condition.
-/
import Derived.Test.YtoogopcaieodoaaA
namespace Go.Proofs.Ytoogopcaieodoaa
open Go.RowKit
attribute [local go_sem] onto_cell onto_frozen
theorem ret_bool {a b : Bool} (h : a = b) : Ending.returned (.bool a) = .returned (.bool b) := by rw [h]
theorem ret_int {k : IntKind} {a b : Int} (h : a = b) : Ending.returned (.int k a) = .returned (.int k b) := by rw [h]
/-- A set of bytes: its four words. -/
structure Mk where
  w0 : Int
  w1 : Int
  w2 : Int
  w3 : Int
def setV (m : Mk) : Value := .agg #[.int .u64 m.w0, .int .u64 m.w1, .int .u64 m.w2, .int .u64 m.w3]
def word (m : Mk) (i : Int) : Int := if i = 0 then m.w0 else if i = 1 then m.w1 else if i = 2 then m.w2 else m.w3
/-- Whether a set has a byte. -/
def has (m : Mk) (c : Int) : Bool := bits .and .u64 (word m (c / 64) / 2 ^ (c % 64).toNat) 1 == 1
theorem has_any (m : Mk) (c : Int) (w : World) (h0 : 0 ≤ c) (h1 : c ≤ 255) :
    Calls Try.prog 39 #[setV m, .int .u8 c] w fun e w' => e = .returned (.bool (has m c)) ∧ Keeps Non w w' := by
  have e : c / 64 = 0 ∨ c / 64 = 1 ∨ c / 64 = 2 ∨ c / 64 = 3 := by omega
  unfold setV
  rcases e with e | e | e | e
  all_goals
    have hH : Hid (has m c = (bits .and .u64 (word m (c / 64) / 2 ^ (c % 64).toNat) 1 == 1)) := rfl
    rw [e] at hH
    simp only [word, Int.reduceEq, ↓reduceIte] at hH
    go_enter Try.func39, Try.ntmps39
    go_wp2
    go_ret
    exact ⟨ret_bool hH.out.symm, (Keeps.refl _ _).alloc _⟩
theorem has_at (m : Mk) (c : Int) (v : Bool) (w : World) (h0 : 0 ≤ c) (h1 : c ≤ 255) (hv : has m c = v) :
    Calls Try.prog 39 #[.agg #[.int .u64 m.w0, .int .u64 m.w1, .int .u64 m.w2, .int .u64 m.w3], .int .u8 c] w fun e w' => e = .returned (.bool v) ∧ Keeps Non w w' := by
  subst hv
  exact has_any m c w h0 h1
/-- A letter's byte, a lower letter made. -/
def low (c : Int) : Int := bits .or .u8 c 32
def letterB (c : Int) : Bool := decide (97 ≤ low c) && decide (low c ≤ 122)
def digitB (c : Int) : Bool := decide (48 ≤ c) && decide (c ≤ 57)
/-- Whether a byte counts as a mark. -/
def isMk (m : Mk) (c : Int) : Bool := has m c && decide (32 ≤ c) && decide (c ≤ 126) && !letterB c && !digitB c
set_option maxHeartbeats 2000000 in
theorem isMark_any (m : Mk) (c : Int) (w : World) (h0 : 0 ≤ c) (h1 : c ≤ 255) :
    Calls Try.prog 35 #[.agg #[.int .u64 m.w0, .int .u64 m.w1, .int .u64 m.w2, .int .u64 m.w3], .int .u8 c] w fun e w' => e = .returned (.bool (isMk m c)) ∧ Keeps Non w w' := by
  obtain ⟨b, hb⟩ : ∃ b, has m c = b := ⟨_, rfl⟩
  have HC := hide (fun w => has_at m c b w h0 h1 hb)
  obtain ⟨l, hl⟩ : ∃ l, low c = l := ⟨_, rfl⟩
  have hM : Hid (isMk m c = (b && decide (32 ≤ c) && decide (c ≤ 126) && !(decide (97 ≤ l) && decide (l ≤ 122)) && !(decide (48 ≤ c) && decide (c ≤ 57)))) := by simp [Hid, isMk, letterB, digitB, hb, hl]
  have hL : bits .or .u8 c 32 = l := hl
  clear hb hl
  cases b with
  | false =>
    go_enter Try.func35, Try.ntmps35
    go_wp2_with (go_at_call 39; refine (HC.out _).mono ?_; rintro e w' ⟨rfl, hk⟩)
    all_goals
      go_ret
      exact ⟨ret_bool (by rw [hM.out]; simp), ((Keeps.refl _ _).alloc _).then (by assumption)⟩
  | true =>
    go_enter Try.func35, Try.ntmps35
    go_wp2_with (go_at_call 39; refine (HC.out _).mono ?_; rintro e w' ⟨rfl, hk⟩)
    all_goals
      go_ret
      refine ⟨ret_bool ?_, ((Keeps.refl _ _).alloc _).then (by assumption)⟩
      rw [hM.out]
      first | (simp [*]; done) | (simp [*]; omega) | (rw [Bool.eq_iff_iff]; simp; omega)
theorem isMark_at (m : Mk) (c : Int) (v : Bool) (w : World) (h0 : 0 ≤ c) (h1 : c ≤ 255) (hv : isMk m c = v) :
    Calls Try.prog 35 #[.agg #[.int .u64 m.w0, .int .u64 m.w1, .int .u64 m.w2, .int .u64 m.w3], .int .u8 c] w fun e w' => e = .returned (.bool v) ∧ Keeps Non w w' := by
  subst hv
  exact isMark_any m c w h0 h1
/-- The index of a byte in a text; -1 if it is not there. -/
def idx (l : List UInt8) (c : Int) : Int := Lib.indexByte l c.toNat.toUInt8
theorem index_at (s : ByteArray) (c i : Int) (w : World) (h : idx s.data.toList c = i) :
    Calls Try.prog 34 #[.string s, .int .u8 c] w fun e w' => e = .returned (.int .i64 i) ∧ w = w' := by
  subst h
  exact (Try.strings_IndexByte s c w).mono fun _ _ ⟨a, b⟩ => ⟨a, b.symm⟩
/-- The number of a hexadecimal digit; 16 if it is none. -/
def hexL : List UInt8 := [48, 49, 50, 51, 52, 53, 54, 55, 56, 57, 97, 98, 99, 100, 101, 102]
def nib (c : Int) : Int := if 48 ≤ c ∧ c ≤ 57 then c - 48 else if 10 ≤ idx hexL (low c) ∧ 65 ≤ c then idx hexL (low c) else 16
set_option maxHeartbeats 2000000 in
theorem nibble_any (c : Int) (w : World) (h0 : 0 ≤ c) (h1 : c ≤ 255) :
    Calls Try.prog 37 #[.int .u8 c] w fun e w' => e = .returned (.int .i64 (nib c)) ∧ w = w' := by
  obtain ⟨i, hi⟩ : ∃ i, idx hexL (low c) = i := ⟨_, rfl⟩
  have hN : Hid (nib c = if 48 ≤ c ∧ c ≤ 57 then c - 48 else if 10 ≤ i ∧ 65 ≤ c then i else 16) := by simp only [Hid, nib, hi]
  have HC := hide (fun w => index_at ⟨hexL.toArray⟩ (low c) i w hi)
  clear hi
  go_enter Try.func37, Try.ntmps37
  go_wp2_with (go_at_call 34; refine (HC.out _).mono ?_; rintro e w' ⟨rfl, rfl⟩)
  all_goals
    go_ret
    refine ⟨ret_int ?_, rfl⟩
    rw [hN.out]
    first | (rw [if_pos (by omega)]; done) | (rw [if_pos (by omega)]; omega) | (rw [if_neg (by omega), if_pos (by omega)]; done) | (rw [if_neg (by omega), if_neg (by omega)]; done)
end Go.Proofs.Ytoogopcaieodoaa
