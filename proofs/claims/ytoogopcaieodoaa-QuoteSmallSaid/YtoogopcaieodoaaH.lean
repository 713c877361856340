/-
  ReadByte: its one contract. No condition.
-/
import Derived.Test.YtoogopcaieodoaaG
namespace Go.Proofs.Ytoogopcaieodoaa
open Go.RowKit
/-- What ReadByte reads: the byte, how many bytes say it, the error. -/
def rdE (m : Mk) (d : Int) (r : List UInt8) : Int × Int × Int :=
  if d = 120 then
    match r with
    | x :: y :: _ => if nib (x.toNat : Int) < 16 ∧ nib (y.toNat : Int) < 16 then (nib (x.toNat : Int) * 16 + nib (y.toNat : Int), 4, 0) else (0, 0, 20)
    | _ => (0, 0, 20)
  else if d = 92 ∨ isMk m d = true then (d, 2, 0)
  else if d = 110 then (10, 2, 0) else if d = 114 then (13, 2, 0) else if d = 116 then (9, 2, 0) else (0, 0, 20)
def rdB (m : Mk) : List UInt8 → Int × Int × Int
  | [] => (0, 0, 20)
  | c :: r =>
    if (c.toNat : Int) = 92 then
      match r with
      | [] => (0, 0, 20)
      | d :: r => rdE m (d.toNat : Int) r
    else if 32 ≤ (c.toNat : Int) ∧ (c.toNat : Int) ≤ 126 ∧ isMk m (c.toNat : Int) = false then ((c.toNat : Int), 1, 0) else (0, 0, 20)
/-- The tuple of a reading. -/
def rdT (x : Int × Int × Int) : Value := .tuple #[.int .u8 x.1, .int .i64 x.2.1, .int .i64 x.2.2]
theorem nib_nonneg (c : Int) : 0 ≤ nib c := by
  unfold nib
  split
  · omega
  · split <;> omega
theorem hex_or (p q : Int) (hp : 0 ≤ p) (hq : 0 ≤ q) (hp16 : p < 16) (hq16 : q < 16) : bits .or .i64 (p * 16) q % 256 = p * 16 + q := by
  have h : ∀ a : Fin 16, ∀ b : Fin 16, bits .or .i64 ((a.val : Int) * 16) (b.val : Int) % 256 = (a.val : Int) * 16 + (b.val : Int) := by decide
  have := h ⟨p.toNat, by omega⟩ ⟨q.toNat, by omega⟩
  simpa [Int.toNat_of_nonneg hp, Int.toNat_of_nonneg hq] using this
theorem lets (d : Int) (h0 : 0 ≤ d) (h1 : d ≤ 255) (a : d ≠ 110) (b : d ≠ 114) (c : d ≠ 116) : idx [110, 114, 116] d = -1 := by
  have : ∀ n : Fin 256, n.val ≠ 110 → n.val ≠ 114 → n.val ≠ 116 → idx [110, 114, 116] (n.val : Int) = -1 := by
    set_option maxRecDepth 100000 in decide
  have := this ⟨d.toNat, by omega⟩ (by simp only []; omega) (by simp only []; omega) (by simp only []; omega)
  simpa [Int.toNat_of_nonneg h0] using this
theorem rb_any (m : Mk) (s : ByteArray) (w : World) :
    Calls Try.prog 20 #[.string s, .agg #[.int .u64 m.w0, .int .u64 m.w1, .int .u64 m.w2, .int .u64 m.w3]] w fun e w' => e = .returned (rdT (rdB m s.data.toList)) ∧ Keeps Non w w' := by
  obtain ⟨⟨l⟩⟩ := s
  show Calls _ _ _ _ fun e w' => e = .returned (rdT (rdB m l)) ∧ _
  match l with
  | [] => exact rb_empty m _ w rfl
  | c :: r =>
    have hs : 0 < (ByteArray.mk ⟨c :: r⟩).size := Nat.succ_pos _
    have bc := u8_bd c
    by_cases h92 : (c.toNat : Int) = 92
    · match r with
      | [] =>
        have e : rdB m [c] = (0, 0, 20) := by simp only [rdB, h92, ↓reduceIte]
        rw [e]
        exact rb_short m _ w hs h92 (show 1 < 2 from by decide)
      | d :: r =>
        have e : rdB m (c :: d :: r) = rdE m (d.toNat : Int) r := by simp only [rdB, h92, ↓reduceIte]
        rw [e]
        have hs1 : 1 < (ByteArray.mk ⟨c :: d :: r⟩).size := Nat.succ_lt_succ (Nat.succ_pos _)
        have bd := u8_bd d
        by_cases h120 : (d.toNat : Int) = 120
        · match r with
          | [] =>
            have e : rdE m (d.toNat : Int) [] = (0, 0, 20) := by simp only [rdE, h120, ↓reduceIte]
            rw [e]
            exact rb_x1 m _ w hs1 h92 h120 (show 2 ≤ 3 from by decide)
          | [x] =>
            have e : rdE m (d.toNat : Int) [x] = (0, 0, 20) := by simp only [rdE, h120, ↓reduceIte]
            rw [e]
            exact rb_x1 m _ w hs1 h92 h120 (show 3 ≤ 3 from by decide)
          | x :: y :: r =>
            have hs3 : 3 < (ByteArray.mk ⟨c :: d :: x :: y :: r⟩).size := Nat.succ_lt_succ (Nat.succ_lt_succ (Nat.succ_lt_succ (Nat.succ_pos _)))
            by_cases hp : nib (x.toNat : Int) < 16
            · by_cases hq : nib (y.toNat : Int) < 16
              · have e : rdE m (d.toNat : Int) (x :: y :: r) = (nib (x.toNat : Int) * 16 + nib (y.toNat : Int), 4, 0) := by simp only [rdE, h120, ↓reduceIte, hp, hq, and_self]
                rw [e]
                refine (rb_hex m _ (x.toNat : Int) (y.toNat : Int) _ _ w hs3 h92 h120 rfl rfl rfl rfl hp hq (nib_nonneg _)).mono fun e w' ⟨he, hk⟩ => ⟨?_, hk⟩
                rw [he, hex_or _ _ (nib_nonneg _) (nib_nonneg _) hp hq]
                rfl
              · have e : rdE m (d.toNat : Int) (x :: y :: r) = (0, 0, 20) := by simp only [rdE, h120, ↓reduceIte, hp, hq, and_false]
                rw [e]
                exact rb_x3 m _ (x.toNat : Int) (y.toNat : Int) _ _ w hs3 h92 h120 rfl rfl rfl rfl hp (by omega)
            · have e : rdE m (d.toNat : Int) (x :: y :: r) = (0, 0, 20) := by simp only [rdE, h120, ↓reduceIte, hp, false_and]
              rw [e]
              exact rb_x2 m _ (x.toNat : Int) (y.toNat : Int) _ _ w hs3 h92 h120 rfl rfl rfl rfl (by omega)
        · have b120 : ((d.toNat : Int) == 120) = false := by simpa using h120
          by_cases hd92 : (d.toNat : Int) = 92
          · have e : rdE m (d.toNat : Int) r = (92, 2, 0) := by simp [rdE, hd92]
            rw [e]
            exact rb_slash m _ w hs1 h92 hd92
          · have b92 : ((d.toNat : Int) == 92) = false := by simpa using hd92
            cases hm : isMk m (d.toNat : Int) with
            | true =>
              have e : rdE m (d.toNat : Int) r = ((d.toNat : Int), 2, 0) := by simp only [rdE, h120, ↓reduceIte, hm, or_true]
              rw [e]
              exact rb_esc m _ (d.toNat : Int) _ w hs1 h92 rfl b120 b92 rfl hm
            | false =>
              by_cases l0 : (d.toNat : Int) = 110
              · have e : rdE m (d.toNat : Int) r = (10, 2, 0) := by
                  unfold rdE
                  rw [if_neg h120, if_neg (by simp [hd92, hm]), if_pos l0]
                rw [e]
                exact rb_l0 m _ w hs1 h92 l0
              · by_cases l1 : (d.toNat : Int) = 114
                · have e : rdE m (d.toNat : Int) r = (13, 2, 0) := by
                    unfold rdE
                    rw [if_neg h120, if_neg (by simp [hd92, hm]), if_neg l0, if_pos l1]
                  rw [e]
                  exact rb_l1 m _ w hs1 h92 l1
                · by_cases l2 : (d.toNat : Int) = 116
                  · have e : rdE m (d.toNat : Int) r = (9, 2, 0) := by
                      unfold rdE
                      rw [if_neg h120, if_neg (by simp [hd92, hm]), if_neg l0, if_neg l1, if_pos l2]
                    rw [e]
                    exact rb_l2 m _ w hs1 h92 l2
                  · have e : rdE m (d.toNat : Int) r = (0, 0, 20) := by
                      unfold rdE
                      rw [if_neg h120, if_neg (by simp [hd92, hm]), if_neg l0, if_neg l1, if_neg l2]
                    rw [e]
                    exact rb_none m _ (d.toNat : Int) (-1) w hs1 h92 rfl b120 b92 (lets _ bd.1 bd.2 l0 l1 l2) hm (by decide)
    · have b92 : ((c.toNat : Int) != 92) = true := by simpa using h92
      by_cases h32 : 32 ≤ (c.toNat : Int)
      · by_cases h126 : (c.toNat : Int) ≤ 126
        · cases hm : isMk m (c.toNat : Int) with
          | false =>
            have e : rdB m (c :: r) = ((c.toNat : Int), 1, 0) := by simp only [rdB, h92, ↓reduceIte, h32, h126, hm, and_self]
            rw [e]
            exact rb_plain m _ (c.toNat : Int) w hs rfl b92 h32 h126 hm
          | true =>
            have e : rdB m (c :: r) = (0, 0, 20) := by simp only [rdB, h92, ↓reduceIte, h32, h126, hm, and_false, Bool.true_eq_false]
            rw [e]
            exact rb_mark m _ (c.toNat : Int) w hs rfl b92 h32 h126 hm
        · have e : rdB m (c :: r) = (0, 0, 20) := by simp only [rdB, h92, ↓reduceIte, h126, and_false, false_and]
          rw [e]
          exact rb_high m _ (c.toNat : Int) w hs rfl b92 (by omega)
      · have e : rdB m (c :: r) = (0, 0, 20) := by simp only [rdB, h92, ↓reduceIte, h32, false_and]
        rw [e]
        exact rb_low m _ (c.toNat : Int) w hs rfl b92 (by omega)
end Go.Proofs.Ytoogopcaieodoaa
